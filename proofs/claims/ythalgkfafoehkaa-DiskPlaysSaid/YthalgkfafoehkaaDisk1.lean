/- The disk: what it is, and what of it lies in memory. -/
import Derived.Test.YthalgkfafoehkaaProg
import Derived.Test.YthalgkfafoehkaaSl9
namespace Go.Sl
open Go.Proofs

abbrev Sect := List UInt8
def by1 (b : UInt8) : Value := .int .u8 b.toNat
def bys (l : List UInt8) : List Value := l.map by1
/-- A disk: each sector's values since the last sync (the first is the sure one), and its counters. -/
structure D where
  vals : List (List Sect)
  left : Int
  off : Bool
  taken : Int
def D.sure (x : D) : List UInt8 := x.vals.flatMap fun l => l.headD []
structure D.Ok (x : D) : Prop where
  pos : 0 < x.vals.length
  big : x.vals.length ≤ 4096
  each : ∀ l ∈ x.vals, l ≠ [] ∧ l.length ≤ 4611686018427387904
  sect : ∀ l ∈ x.vals, ∀ s ∈ l, s.length = 256
  left : -1 ≤ x.left ∧ x.left ≤ 9223372036854775807
  taken : -9223372036854775808 ≤ x.taken ∧ x.taken ≤ 9223372036854775807
def intF (n : Int) : Value := .int .i64 n
/-- A value that was written: its key, its slice, its bytes. -/
structure Fe where
  at_ : Int
  n : Int
  a : Option Addr
  cap : Nat
  bs : Sect
def Fe.key (e : Fe) : Int × Int := (e.at_, e.n)
def Fe.pair (e : Fe) : (Int × Int) × Value := (e.key, .slice e.a 256 e.cap)
def Fe.own (e : Fe) : HP := slo 5 1 e.a 256 e.cap (bys e.bs)
def Many (x : D) (mm : List (Int × Value)) : Prop := ∀ k v, (k, v) ∈ mm ↔ ∃ (i : Nat) (l : List Sect), x.vals[i]? = some l ∧ 1 < l.length ∧ k = i ∧ v = .int .i64 ((l.length - 1 : Nat) : Int)
def Fresh (x : D) (ff : List Fe) : Prop := ∀ k1 k2 bs, (∃ e ∈ ff, e.key = (k1, k2) ∧ e.bs = bs) ↔ ∃ (i j : Nat) (l : List Sect), x.vals[i]? = some l ∧ 1 ≤ j ∧ l[j]? = some bs ∧ k1 = i ∧ k2 = j
/-- The struct's cells. -/
def dcells (a : Option Addr) (n cap fb mb : Nat) (x : D) : Array Value := #[.slice a n cap, .map (some fb), .map (some mb), .int .i64 x.left, .bool x.off, .int .i64 x.taken]
def dlist (d : Nat) (x : D) (a : Option Addr) (cap fb mb : Nat) (mm : List (Int × Value)) (ff fo : List Fe) : List HP :=
  [blk d (.cells #[.slice a (256 * x.vals.length) cap, .map (some fb), .map (some mb), .int .i64 x.left, .bool x.off, .int .i64 x.taken] 49 (0, 0)), slo 5 1 a (256 * x.vals.length) cap (bys x.sure), mapP intF mb mm,
    mapP pairF fb (ff.map Fe.pair), stars (fo.map Fe.own)]
/-- A disk in memory; the values that were written are its own, or are among those of sh (these are shared: nobody writes them). -/
def DISK (d : Nat) (x : D) (sh : List Fe) : HP := fun h => ∃ a cap fb mb mm ff fo, x.Ok ∧ Many x mm ∧ Fresh x ff ∧ (∀ e ∈ ff, e ∈ fo ∨ e ∈ sh) ∧ stars (dlist d x a cap fb mb mm ff fo) h
theorem DISK_mono (d : Nat) (x : D) (sh : List Fe) : Mono (DISK d x sh) := fun _ _ s ⟨a, cap, fb, mb, mm, ff, fo, h1, h2, h3, h4, h5⟩ => ⟨a, cap, fb, mb, mm, ff, fo, h1, h2, h3, h4, stars_mono _ _ _ s h5⟩
/-- What is shared reads as it should. -/
def ROs (w : World) (sh : List Fe) : Prop := ∀ e ∈ sh, Rd w e.a 256 e.cap 1 (bys e.bs)
/-- .. as long as F stands. -/
def RO (w0 : World) (F : HP) (sh : List Fe) : Prop := ∀ w, Sat w0 w [F] → ROs w sh

/-- An assertion that holds of a world's memory, whatever else holds. -/
def Hold (w : World) (p : HP) : Prop := p fun b => w.heap[b]?
theorem hpOf_sub (w0 w : World) : sub (hpOf w0 w) fun b => w.heap[b]? := by
  intro b o e
  unfold hpOf at e
  split at e
  · cases e
  · exact e
theorem Sat.hold {w0 w : World} {L : List HP} {i : Nat} {p : HP} (H : Sat w0 w L) (hi : L[i]? = some p) (hm : Mono p) : Hold w p := by
  obtain ⟨_, h1, _, _, s1, _, hp, _⟩ := H.pick hi
  exact hm _ _ (s1.trans (hpOf_sub _ _)) hp
/-- Every assertion holds of a world over nothing. -/
def wnil (w : World) : World := { w with heap := #[] }
theorem Hold.sat {w : World} {L : List HP} (h : Hold w (stars L)) : Sat (wnil w) w L := by
  refine ⟨⟨Nat.zero_le _, (fun b hb => absurd hb (Nat.not_lt_zero b)), rfl, rfl, rfl⟩, ?_⟩
  have : hpOf (wnil w) w = fun b => w.heap[b]? := by
    funext b
    simp [hpOf, wnil]
  rw [this]; exact h
theorem cell_heapEq {w w' : World} {a : Addr} {v : Value} (e : core w' = core w) (h : w.cell? a = some v) : w'.cell? a = some v := by
  unfold World.cell? at *
  rw [core_heap e]; exact h
theorem MapAt.heapEq {κ : Type} {w w' : World} {kf : κ → Value} {b : Nat} {m : List (κ × Value)} (h : MapAt w kf b m) (e : core w' = core w) : MapAt w' kf b m := by
  unfold MapAt at *
  rw [core_heap e]; exact h
theorem Hold.heapEq {w w' : World} {p : HP} (h : Hold w p) (e : core w' = core w) : Hold w' p := by
  unfold Hold at *
  rw [core_heap e]; exact h
theorem Hold.ext {w w' : World} {p : HP} (h : Hold w p) (hm : Mono p) (e : Ext w w') : Hold w' p := by
  refine hm _ _ (fun b o hb => ?_) h
  have hlt := (Array.getElem?_eq_some_iff.1 hb).1
  rw [e.2.1 b hlt]; exact hb

def HoldD (w : World) (d : Nat) (x : D) : Prop := ∃ sh, Hold w (DISK d x sh) ∧ ROs w sh
theorem ROs.heapEq {w w' : World} {sh : List Fe} (h : ROs w sh) (e : core w' = core w) : ROs w' sh := fun f hf => (h f hf).heapEq e
theorem ROs.ext {w w' : World} {sh : List Fe} (h : ROs w sh) (e : Ext w w') : ROs w' sh := fun f hf => (h f hf).ext e
theorem HoldD.heapEq {w w' : World} {d : Nat} {x : D} (h : HoldD w d x) (e : core w' = core w) : HoldD w' d x := by
  obtain ⟨sh, h1, h2⟩ := h
  exact ⟨sh, h1.heapEq e, h2.heapEq e⟩
theorem HoldD.ext {w w' : World} {d : Nat} {x : D} (h : HoldD w d x) (e : Ext w w') : HoldD w' d x := by
  obtain ⟨sh, h1, h2⟩ := h
  exact ⟨sh, h1.ext (DISK_mono _ _ _) e, h2.ext e⟩
theorem Sat.only {w0 w : World} {L : List HP} {i : Nat} {p : HP} (H : Sat w0 w L) (hi : L[i]? = some p) : Sat w0 w [p] := by
  obtain ⟨hE, h1, h2, d, s1, s2, hp, _⟩ := H.pick hi
  exact ⟨hE, h1, fun _ => none, fun _ => .inr rfl, s1, (fun _ _ e => by cases e), hp, trivial⟩
theorem Sat.holdD {w0 w : World} {L : List HP} {i j : Nat} {d : Nat} {x : D} {F : HP} {sh : List Fe} (H : Sat w0 w L) (hi : L[i]? = some (DISK d x sh)) (hj : L[j]? = some F) (hsh : RO w0 F sh) : HoldD w d x :=
  ⟨sh, H.hold hi (DISK_mono _ _ _), hsh w (H.only hj)⟩
theorem RO.inn {w0 : World} {L : List HP} {i : Nat} {F : HP} {sh : List Fe} (h : RO w0 F sh) (hi : L[i]? = some F) : RO w0 (stars L) sh := fun w H => by
  have H1 : Sat w0 w (L ++ []) := H.join
  rw [List.append_nil] at H1
  exact h w (H1.only hi)
/-- What a disk's memory reads as. -/
structure DiskRd (w : World) (d : Nat) (x : D) (a : Option Addr) (cap fb mb : Nat) (mm : List (Int × Value)) (ff : List Fe) : Prop where
  ok : x.Ok
  many : Many x mm
  fresh : Fresh x ff
  c0 : w.cell? ⟨d, 0, none⟩ = some (.slice a (256 * x.vals.length) cap)
  c1 : w.cell? ⟨d, 1, none⟩ = some (.map (some fb))
  c2 : w.cell? ⟨d, 2, none⟩ = some (.map (some mb))
  c3 : w.cell? ⟨d, 3, none⟩ = some (.int .i64 x.left)
  c4 : w.cell? ⟨d, 4, none⟩ = some (.bool x.off)
  c5 : w.cell? ⟨d, 5, none⟩ = some (.int .i64 x.taken)
  sure : Rd w a (256 * x.vals.length) cap 1 (bys x.sure)
  mapM : MapAt w intF mb mm
  mapF : MapAt w pairF fb (ff.map Fe.pair)
  rds : ∀ e ∈ ff, Rd w e.a 256 e.cap 1 (bys e.bs)
  isSome : a.isSome = true
theorem bys_length (l : List UInt8) : (bys l).length = l.length := by simp [bys]
theorem stars_mem {L : List HP} {p : HP} (hm : p ∈ L) {h : Hp} (s : stars L h) : ∃ g, sub g h ∧ p g := by
  induction L generalizing h with
  | nil => cases hm
  | cons q L ih =>
    obtain ⟨h1, h2, _, s1, s2, hp, hq⟩ := s
    rcases List.mem_cons.1 hm with rfl | hm
    · exact ⟨h1, s1, hp⟩
    · obtain ⟨g, sg, hg⟩ := ih hm hq
      exact ⟨g, sg.trans s2, hg⟩
theorem slo_rd {w : World} {e sz : Nat} {a : Option Addr} {n cap : Nat} {cs : List Value} {g : Hp} (hs : sub g fun b => w.heap[b]?) (h : slo e sz a n cap cs g) : Rd w a n cap sz cs := by
  have H : Sat (wnil w) w [slo e sz a n cap cs] := Hold.sat ⟨g, fun _ => none, fun _ => .inr rfl, hs, (fun _ _ e => by cases e), h, trivial⟩
  exact H.rd (i := 0) rfl
theorem DISK.read {w : World} {d : Nat} {x : D} (h : HoldD w d x) : ∃ a cap fb mb mm ff, DiskRd w d x a cap fb mb mm ff := by
  obtain ⟨sh, ⟨a, cap, fb, mb, mm, ff, fo, h1, h2, h3, hfo, h4⟩, hsh⟩ := h
  have H : Sat (wnil w) w (dlist d x a cap fb mb mm ff fo) := Hold.sat h4
  have hrd := H.rd (i := 1) rfl
  refine ⟨a, cap, fb, mb, mm, ff, h1, h2, h3, H.cell (i := 0) rfl rfl, H.cell (i := 0) rfl rfl, H.cell (i := 0) rfl rfl, H.cell (i := 0) rfl rfl, H.cell (i := 0) rfl rfl, H.cell (i := 0) rfl rfl,
    hrd, H.mapW (i := 2) rfl, H.mapW (i := 3) rfl, fun e he => ?_, ?_⟩
  · rcases hfo e he with he | he
    · obtain ⟨g, sg, hg⟩ := stars_mem (p := stars (fo.map Fe.own)) (by simp [dlist]) h4
      obtain ⟨g2, sg2, hg2⟩ := stars_mem (p := e.own) (List.mem_map.2 ⟨e, he, rfl⟩) hg
      exact slo_rd (sg2.trans sg) hg2
    · exact hsh e he
  · have := h1.pos
    obtain ⟨b, off, ha, _⟩ := hrd.2.2 (by omega)
    rw [ha]; rfl
theorem DISK.openL {w0 w : World} {d : Nat} {x : D} {sh : List Fe} {L : List HP} (H : Sat w0 w (DISK d x sh :: L)) : ∃ a cap fb mb mm ff fo, x.Ok ∧ Many x mm ∧ Fresh x ff ∧ (∀ e ∈ ff, e ∈ fo ∨ e ∈ sh) ∧ Sat w0 w (dlist d x a cap fb mb mm ff fo ++ L) := by
  obtain ⟨hE, h1, h2, dd, s1, s2, ⟨a, cap, fb, mb, mm, ff, fo, q1, q2, q3, q4, q5⟩, hq⟩ := H
  exact ⟨a, cap, fb, mb, mm, ff, fo, q1, q2, q3, q4, hE, stars_join _ _ ⟨h1, h2, dd, s1, s2, q5, hq⟩⟩
theorem DISK.closeL {w0 w : World} {d : Nat} {x : D} {sh : List Fe} {L : List HP} {a : Option Addr} {cap fb mb : Nat} {mm : List (Int × Value)} {ff fo : List Fe} (h1 : x.Ok) (h2 : Many x mm) (h3 : Fresh x ff) (h4 : ∀ e ∈ ff, e ∈ fo ∨ e ∈ sh)
    (H : Sat w0 w (dlist d x a cap fb mb mm ff fo ++ L)) : Sat w0 w (DISK d x sh :: L) := by
  obtain ⟨hE, h⟩ := H
  exact ⟨hE, star_imp (stars_part _ _ h) (fun g hg => ⟨a, cap, fb, mb, mm, ff, fo, h1, h2, h3, h4, hg⟩) fun _ x => x⟩
theorem D.sure_length {x : D} (h : x.Ok) : x.sure.length = 256 * x.vals.length := by
  have key : ∀ (l : List (List Sect)), (∀ v ∈ l, v ≠ [] ∧ ∀ s ∈ v, s.length = 256) → (l.flatMap fun v => v.headD []).length = 256 * l.length := by
    intro l
    induction l with
    | nil => intro _; rfl
    | cons v l ih =>
      intro hh
      obtain ⟨h1, h2⟩ := hh v (List.mem_cons_self ..)
      rw [List.flatMap_cons, List.length_append, ih fun u hu => hh u (List.mem_cons_of_mem _ hu), List.length_cons]
      cases v with
      | nil => exact absurd rfl h1
      | cons s v => rw [List.headD_cons, h2 s (List.mem_cons_self ..)]; omega
  exact key x.vals fun v hv => ⟨(h.each v hv).1, h.sect v hv⟩
end Go.Sl
