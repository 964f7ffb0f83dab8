/- Several texts of this proof in one. -/
import Derived.Test.YthalgkfafoehkaaDoorProg
import Derived.Test.YthalgkfafoehkaaDoorGSlA
import Derived.Test.YthalgkfafoehkaaDoorGSlB
import Derived.Test.YthalgkfafoehkaaDoorLay
/- The disk: what it is, and what of it lies in memory. -/
namespace Go.Sl
open Go.Proofs

abbrev Sect := List UInt8
def by1 (b : UInt8) : Value := .int .u8 b.toNat
def bys (l : List UInt8) : List Value := l.map by1
/-- A disk: each sector's values since the last sync (the first is the sure one), and its counters. -/
structure D where
  vals : List (List Sect)
  left : Int
  off : Bool
  taken : Int
def D.sure (x : D) : List UInt8 := x.vals.flatMap fun l => l.headD []
structure D.Ok (x : D) : Prop where
  pos : 0 < x.vals.length
  big : x.vals.length ≤ 4096
  each : ∀ l ∈ x.vals, l ≠ [] ∧ l.length ≤ 4611686018427387904
  sect : ∀ l ∈ x.vals, ∀ s ∈ l, s.length = 256
  left : -1 ≤ x.left ∧ x.left ≤ 9223372036854775807
  taken : -9223372036854775808 ≤ x.taken ∧ x.taken ≤ 9223372036854775807
def intF (n : Int) : Value := .int .i64 n
/-- A value that was written: its key, its slice, its bytes. -/
structure Fe where
  at_ : Int
  n : Int
  a : Option Addr
  cap : Nat
  bs : Sect
def Fe.key (e : Fe) : Int × Int := (e.at_, e.n)
def Fe.pair (e : Fe) : (Int × Int) × Value := (e.key, .slice e.a 256 e.cap)
def Fe.own (e : Fe) : HP := slo 5 1 e.a 256 e.cap (bys e.bs)
def Many (x : D) (mm : List (Int × Value)) : Prop := ∀ k v, (k, v) ∈ mm ↔ ∃ (i : Nat) (l : List Sect), x.vals[i]? = some l ∧ 1 < l.length ∧ k = i ∧ v = .int .i64 ((l.length - 1 : Nat) : Int)
def Fresh (x : D) (ff : List Fe) : Prop := ∀ k1 k2 bs, (∃ e ∈ ff, e.key = (k1, k2) ∧ e.bs = bs) ↔ ∃ (i j : Nat) (l : List Sect), x.vals[i]? = some l ∧ 1 ≤ j ∧ l[j]? = some bs ∧ k1 = i ∧ k2 = j
/-- The struct's cells. -/
def dcells (a : Option Addr) (n cap fb mb : Nat) (x : D) : Array Value := #[.slice a n cap, .map (some fb), .map (some mb), .int .i64 x.left, .bool x.off, .int .i64 x.taken]
def dlist (d : Nat) (x : D) (a : Option Addr) (cap fb mb : Nat) (mm : List (Int × Value)) (ff fo : List Fe) : List HP :=
  [blk d (.cells #[.slice a (256 * x.vals.length) cap, .map (some fb), .map (some mb), .int .i64 x.left, .bool x.off, .int .i64 x.taken] 83 (0, 0)), slo 5 1 a (256 * x.vals.length) cap (bys x.sure), mapP intF mb mm,
    mapP pairF fb (ff.map Fe.pair), stars (fo.map Fe.own)]
/-- A disk in memory; the values that were written are its own, or are among those of sh (these are shared: nobody writes them). -/
def DISK (d : Nat) (x : D) (sh : List Fe) : HP := fun h => ∃ a cap fb mb mm ff fo, x.Ok ∧ Many x mm ∧ Fresh x ff ∧ (∀ e ∈ ff, e ∈ fo ∨ e ∈ sh) ∧ stars (dlist d x a cap fb mb mm ff fo) h
theorem DISK_mono (d : Nat) (x : D) (sh : List Fe) : Mono (DISK d x sh) := fun _ _ s ⟨a, cap, fb, mb, mm, ff, fo, h1, h2, h3, h4, h5⟩ => ⟨a, cap, fb, mb, mm, ff, fo, h1, h2, h3, h4, stars_mono _ _ _ s h5⟩
/-- What is shared reads as it should. -/
def ROs (w : World) (sh : List Fe) : Prop := ∀ e ∈ sh, Rd w e.a 256 e.cap 1 (bys e.bs)
/-- .. as long as F stands. -/
def RO (w0 : World) (F : HP) (sh : List Fe) : Prop := ∀ w, Sat w0 w [F] → ROs w sh

/-- An assertion that holds of a world's memory, whatever else holds. -/
def Hold (w : World) (p : HP) : Prop := p fun b => w.heap[b]?
theorem hpOf_sub (w0 w : World) : sub (hpOf w0 w) fun b => w.heap[b]? := by
  intro b o e
  unfold hpOf at e
  split at e
  · cases e
  · exact e
theorem Sat.hold {w0 w : World} {L : List HP} {i : Nat} {p : HP} (H : Sat w0 w L) (hi : L[i]? = some p) (hm : Mono p) : Hold w p := by
  obtain ⟨_, h1, _, _, s1, _, hp, _⟩ := H.pick hi
  exact hm _ _ (s1.trans (hpOf_sub _ _)) hp
/-- Every assertion holds of a world over nothing. -/
def wnil (w : World) : World := { w with heap := #[] }
theorem Hold.sat {w : World} {L : List HP} (h : Hold w (stars L)) : Sat (wnil w) w L := by
  refine ⟨⟨Nat.zero_le _, (fun b hb => absurd hb (Nat.not_lt_zero b)), rfl, rfl, rfl⟩, ?_⟩
  have : hpOf (wnil w) w = fun b => w.heap[b]? := by
    funext b
    simp [hpOf, wnil]
  rw [this]; exact h
theorem cell_heapEq {w w' : World} {a : Addr} {v : Value} (e : core w' = core w) (h : w.cell? a = some v) : w'.cell? a = some v := by
  unfold World.cell? at *
  rw [core_heap e]; exact h
theorem MapAt.heapEq {κ : Type} {w w' : World} {kf : κ → Value} {b : Nat} {m : List (κ × Value)} (h : MapAt w kf b m) (e : core w' = core w) : MapAt w' kf b m := by
  unfold MapAt at *
  rw [core_heap e]; exact h
theorem Hold.heapEq {w w' : World} {p : HP} (h : Hold w p) (e : core w' = core w) : Hold w' p := by
  unfold Hold at *
  rw [core_heap e]; exact h
theorem Hold.ext {w w' : World} {p : HP} (h : Hold w p) (hm : Mono p) (e : Ext w w') : Hold w' p := by
  refine hm _ _ (fun b o hb => ?_) h
  have hlt := (Array.getElem?_eq_some_iff.1 hb).1
  rw [e.2.1 b hlt]; exact hb

def HoldD (w : World) (d : Nat) (x : D) : Prop := ∃ sh, Hold w (DISK d x sh) ∧ ROs w sh
theorem ROs.heapEq {w w' : World} {sh : List Fe} (h : ROs w sh) (e : core w' = core w) : ROs w' sh := fun f hf => (h f hf).heapEq e
theorem ROs.ext {w w' : World} {sh : List Fe} (h : ROs w sh) (e : Ext w w') : ROs w' sh := fun f hf => (h f hf).ext e
theorem HoldD.heapEq {w w' : World} {d : Nat} {x : D} (h : HoldD w d x) (e : core w' = core w) : HoldD w' d x := by
  obtain ⟨sh, h1, h2⟩ := h
  exact ⟨sh, h1.heapEq e, h2.heapEq e⟩
theorem HoldD.ext {w w' : World} {d : Nat} {x : D} (h : HoldD w d x) (e : Ext w w') : HoldD w' d x := by
  obtain ⟨sh, h1, h2⟩ := h
  exact ⟨sh, h1.ext (DISK_mono _ _ _) e, h2.ext e⟩
theorem Sat.only {w0 w : World} {L : List HP} {i : Nat} {p : HP} (H : Sat w0 w L) (hi : L[i]? = some p) : Sat w0 w [p] := by
  obtain ⟨hE, h1, h2, d, s1, s2, hp, _⟩ := H.pick hi
  exact ⟨hE, h1, fun _ => none, fun _ => .inr rfl, s1, (fun _ _ e => by cases e), hp, trivial⟩
theorem Sat.holdD {w0 w : World} {L : List HP} {i j : Nat} {d : Nat} {x : D} {F : HP} {sh : List Fe} (H : Sat w0 w L) (hi : L[i]? = some (DISK d x sh)) (hj : L[j]? = some F) (hsh : RO w0 F sh) : HoldD w d x :=
  ⟨sh, H.hold hi (DISK_mono _ _ _), hsh w (H.only hj)⟩
theorem RO.inn {w0 : World} {L : List HP} {i : Nat} {F : HP} {sh : List Fe} (h : RO w0 F sh) (hi : L[i]? = some F) : RO w0 (stars L) sh := fun w H => by
  have H1 : Sat w0 w (L ++ []) := H.join
  rw [List.append_nil] at H1
  exact h w (H1.only hi)
/-- What a disk's memory reads as. -/
structure DiskRd (w : World) (d : Nat) (x : D) (a : Option Addr) (cap fb mb : Nat) (mm : List (Int × Value)) (ff : List Fe) : Prop where
  ok : x.Ok
  many : Many x mm
  fresh : Fresh x ff
  c0 : w.cell? ⟨d, 0, none⟩ = some (.slice a (256 * x.vals.length) cap)
  c1 : w.cell? ⟨d, 1, none⟩ = some (.map (some fb))
  c2 : w.cell? ⟨d, 2, none⟩ = some (.map (some mb))
  c3 : w.cell? ⟨d, 3, none⟩ = some (.int .i64 x.left)
  c4 : w.cell? ⟨d, 4, none⟩ = some (.bool x.off)
  c5 : w.cell? ⟨d, 5, none⟩ = some (.int .i64 x.taken)
  sure : Rd w a (256 * x.vals.length) cap 1 (bys x.sure)
  mapM : MapAt w intF mb mm
  mapF : MapAt w pairF fb (ff.map Fe.pair)
  rds : ∀ e ∈ ff, Rd w e.a 256 e.cap 1 (bys e.bs)
  isSome : a.isSome = true
theorem bys_length (l : List UInt8) : (bys l).length = l.length := by simp [bys]
theorem stars_mem {L : List HP} {p : HP} (hm : p ∈ L) {h : Hp} (s : stars L h) : ∃ g, sub g h ∧ p g := by
  induction L generalizing h with
  | nil => cases hm
  | cons q L ih =>
    obtain ⟨h1, h2, _, s1, s2, hp, hq⟩ := s
    rcases List.mem_cons.1 hm with rfl | hm
    · exact ⟨h1, s1, hp⟩
    · obtain ⟨g, sg, hg⟩ := ih hm hq
      exact ⟨g, sg.trans s2, hg⟩
theorem slo_rd {w : World} {e sz : Nat} {a : Option Addr} {n cap : Nat} {cs : List Value} {g : Hp} (hs : sub g fun b => w.heap[b]?) (h : slo e sz a n cap cs g) : Rd w a n cap sz cs := by
  have H : Sat (wnil w) w [slo e sz a n cap cs] := Hold.sat ⟨g, fun _ => none, fun _ => .inr rfl, hs, (fun _ _ e => by cases e), h, trivial⟩
  exact H.rd (i := 0) rfl
theorem DISK.read {w : World} {d : Nat} {x : D} (h : HoldD w d x) : ∃ a cap fb mb mm ff, DiskRd w d x a cap fb mb mm ff := by
  obtain ⟨sh, ⟨a, cap, fb, mb, mm, ff, fo, h1, h2, h3, hfo, h4⟩, hsh⟩ := h
  have H : Sat (wnil w) w (dlist d x a cap fb mb mm ff fo) := Hold.sat h4
  have hrd := H.rd (i := 1) rfl
  refine ⟨a, cap, fb, mb, mm, ff, h1, h2, h3, H.cell (i := 0) rfl rfl, H.cell (i := 0) rfl rfl, H.cell (i := 0) rfl rfl, H.cell (i := 0) rfl rfl, H.cell (i := 0) rfl rfl, H.cell (i := 0) rfl rfl,
    hrd, H.mapW (i := 2) rfl, H.mapW (i := 3) rfl, fun e he => ?_, ?_⟩
  · rcases hfo e he with he | he
    · obtain ⟨g, sg, hg⟩ := stars_mem (p := stars (fo.map Fe.own)) (by simp [dlist]) h4
      obtain ⟨g2, sg2, hg2⟩ := stars_mem (p := e.own) (List.mem_map.2 ⟨e, he, rfl⟩) hg
      exact slo_rd (sg2.trans sg) hg2
    · exact hsh e he
  · have := h1.pos
    obtain ⟨b, off, ha, _⟩ := hrd.2.2 (by omega)
    rw [ha]; rfl
theorem DISK.openL {w0 w : World} {d : Nat} {x : D} {sh : List Fe} {L : List HP} (H : Sat w0 w (DISK d x sh :: L)) : ∃ a cap fb mb mm ff fo, x.Ok ∧ Many x mm ∧ Fresh x ff ∧ (∀ e ∈ ff, e ∈ fo ∨ e ∈ sh) ∧ Sat w0 w (dlist d x a cap fb mb mm ff fo ++ L) := by
  obtain ⟨hE, h1, h2, dd, s1, s2, ⟨a, cap, fb, mb, mm, ff, fo, q1, q2, q3, q4, q5⟩, hq⟩ := H
  exact ⟨a, cap, fb, mb, mm, ff, fo, q1, q2, q3, q4, hE, stars_join _ _ ⟨h1, h2, dd, s1, s2, q5, hq⟩⟩
theorem DISK.closeL {w0 w : World} {d : Nat} {x : D} {sh : List Fe} {L : List HP} {a : Option Addr} {cap fb mb : Nat} {mm : List (Int × Value)} {ff fo : List Fe} (h1 : x.Ok) (h2 : Many x mm) (h3 : Fresh x ff) (h4 : ∀ e ∈ ff, e ∈ fo ∨ e ∈ sh)
    (H : Sat w0 w (dlist d x a cap fb mb mm ff fo ++ L)) : Sat w0 w (DISK d x sh :: L) := by
  obtain ⟨hE, h⟩ := H
  exact ⟨hE, star_imp (stars_part _ _ h) (fun g hg => ⟨a, cap, fb, mb, mm, ff, fo, h1, h2, h3, h4, hg⟩) fun _ x => x⟩
theorem D.sure_length {x : D} (h : x.Ok) : x.sure.length = 256 * x.vals.length := by
  have key : ∀ (l : List (List Sect)), (∀ v ∈ l, v ≠ [] ∧ ∀ s ∈ v, s.length = 256) → (l.flatMap fun v => v.headD []).length = 256 * l.length := by
    intro l
    induction l with
    | nil => intro _; rfl
    | cons v l ih =>
      intro hh
      obtain ⟨h1, h2⟩ := hh v (List.mem_cons_self ..)
      rw [List.flatMap_cons, List.length_append, ih fun u hu => hh u (List.mem_cons_of_mem _ hu), List.length_cons]
      cases v with
      | nil => exact absurd rfl h1
      | cons s v => rw [List.headD_cons, h2 s (List.mem_cons_self ..)]; omega
  exact key x.vals fun v hv => ⟨(h.each v hv).1, h.sect v hv⟩
end Go.Sl
/- The disk's small functions. -/
namespace Go.Sl
open Go.Proofs

def dp (d : Nat) : Value := .pointer (some ⟨d, 0, none⟩)
theorem is_calls {w : World} {d : Nat} {x : D} (h : HoldD w d x) : Calls Tryd.prog 47 #[dp d] w (Ret fun v w' => v = .bool true ∧ core w' = core w) := by
  obtain ⟨a, cap, fb, mb, mm, ff, R⟩ := DISK.read h
  obtain ⟨A, rfl⟩ : ∃ A, a = some A := Option.isSome_iff_exists.1 R.isSome
  have c0 := R.c0
  refine calls_of Tryd.func47 rfl rfl ?_
  refine WP_r rfl ?_
  refine s_val rfl (x_assign (by conv => lhs; whnf)) ?_
  refine s_end ?_
  refine WP_r rfl ?_
  refine s_val rfl (x_move (by conv => lhs; whnf)) ?_
  refine s_val rfl (x_neqPtrNil (by kernel_rfl) rfl) ?_
  refine s_val rfl (x_move (by conv => lhs; whnf)) ?_
  refine s_val rfl (x_move (by conv => lhs; whnf)) ?_
  refine s_val rfl (x_nilCheck rfl) ?_
  refine s_val rfl (x_field (off := 0) (by kernel_rfl) rfl) ?_
  refine s_val rfl (x_load (by kernel_rfl) rfl (by first | assumption | exact H.cell (i := 0) rfl rfl | exact H.cell (i := 1) rfl rfl | exact H.cell (i := 2) rfl rfl | exact H.cell (i := 3) rfl rfl | exact H.cell (i := 4) rfl rfl | exact H.cell (i := 5) rfl rfl)) ?_
  refine s_val rfl (x_neqSlNil (by kernel_rfl) rfl) ?_
  refine s_val rfl (x_pick_true rfl (by conv => lhs; whnf)) ?_
  refine s_val rfl (x_assign (by conv => lhs; whnf)) ?_
  refine s_end ?_
  refine WP_ret ?_
  refine retQ_1 rfl (by conv => lhs; whnf) ?_
  exact ⟨rfl, rfl⟩
theorem is_nil {w : World} : Calls Tryd.prog 47 #[.pointer none] w (Ret fun v w' => v = .bool false ∧ core w' = core w) := by
  refine calls_of Tryd.func47 rfl rfl ?_
  refine WP_r rfl ?_
  refine s_val rfl (x_assign (by conv => lhs; whnf)) ?_
  refine s_end ?_
  refine WP_r rfl ?_
  refine s_val rfl (x_move (by conv => lhs; whnf)) ?_
  refine s_val rfl (x_neqPtrNil (by kernel_rfl) rfl) ?_
  refine s_val rfl (x_move (by conv => lhs; whnf)) ?_
  refine s_out rfl ?_
  refine s_out rfl ?_
  refine s_out rfl ?_
  refine s_out rfl ?_
  refine s_out rfl ?_
  refine s_val rfl (x_pick_false rfl (by conv => lhs; whnf)) ?_
  refine s_val rfl (x_assign (by conv => lhs; whnf)) ?_
  refine s_end ?_
  refine WP_ret ?_
  refine retQ_1 rfl (by conv => lhs; whnf) ?_
  exact ⟨rfl, rfl⟩
/-- A disk that no call made. -/
theorem is_zero {w : World} {d : Nat} (h : w.cell? ⟨d, 0, none⟩ = some (.slice none 0 0)) : Calls Tryd.prog 47 #[dp d] w (Ret fun v w' => v = .bool false ∧ core w' = core w) := by
  refine calls_of Tryd.func47 rfl rfl ?_
  refine WP_r rfl ?_
  refine s_val rfl (x_assign (by conv => lhs; whnf)) ?_
  refine s_end ?_
  refine WP_r rfl ?_
  refine s_val rfl (x_move (by conv => lhs; whnf)) ?_
  refine s_val rfl (x_neqPtrNil (by kernel_rfl) rfl) ?_
  refine s_val rfl (x_move (by conv => lhs; whnf)) ?_
  refine s_val rfl (x_move (by conv => lhs; whnf)) ?_
  refine s_val rfl (x_nilCheck rfl) ?_
  refine s_val rfl (x_field (off := 0) (by kernel_rfl) rfl) ?_
  refine s_val rfl (x_load (by kernel_rfl) rfl (by first | assumption | exact H.cell (i := 0) rfl rfl | exact H.cell (i := 1) rfl rfl | exact H.cell (i := 2) rfl rfl | exact H.cell (i := 3) rfl rfl | exact H.cell (i := 4) rfl rfl | exact H.cell (i := 5) rfl rfl)) ?_
  refine s_val rfl (x_neqSlNil (by kernel_rfl) rfl) ?_
  refine s_val rfl (x_pick_true rfl (by conv => lhs; whnf)) ?_
  refine s_val rfl (x_assign (by conv => lhs; whnf)) ?_
  refine s_end ?_
  refine WP_ret ?_
  refine retQ_1 rfl (by conv => lhs; whnf) ?_
  exact ⟨rfl, rfl⟩

def D.take (x : D) : Bool × D := if x.off = true ∨ x.left = 0 then (false, { x with off := true }) else (true, { x with left := max (-1) (x.left - 1), taken := IntKind.i64.wrap (x.taken + 1) })
theorem wrap_bounds (n : Int) : -9223372036854775808 ≤ IntKind.i64.wrap n ∧ IntKind.i64.wrap n ≤ 9223372036854775807 := by
  rw [IntKind.wrap_i64]; omega
theorem max_int (a b : Int) : (if b > a then b else a) = max a b := by omega
theorem take_calls {w0 w : World} {d : Nat} {x : D} {sh : List Fe} {F : HP} (H : Sat w0 w [DISK d x sh, F]) :
    Calls Tryd.prog 62 #[dp d] w (Ret fun v w' => v = .bool x.take.1 ∧ Sat w0 w' [DISK d x.take.2 sh, F]) := by
  obtain ⟨a, cap, fb, mb, mm, ff, fo, hok, hM, hF, hfo, H⟩ := DISK.openL H
  have hl := hok.left
  simp only [dlist, List.cons_append, List.nil_append] at H
  refine calls_of Tryd.func62 rfl rfl ?_
  refine WP_r rfl ?_
  refine s_val rfl (x_assign (by conv => lhs; whnf)) ?_
  refine s_end ?_
  refine WP_seq ?_
  refine WP_r rfl ?_
  refine s_val rfl (x_move (by conv => lhs; whnf)) ?_
  refine s_val rfl (x_nilCheck rfl) ?_
  refine s_val rfl (x_field (off := 4) (by kernel_rfl) rfl) ?_
  refine s_val rfl (x_load (by kernel_rfl) rfl (by first | assumption | exact H.cell (i := 0) rfl rfl | exact H.cell (i := 1) rfl rfl | exact H.cell (i := 2) rfl rfl | exact H.cell (i := 3) rfl rfl | exact H.cell (i := 4) rfl rfl | exact H.cell (i := 5) rfl rfl)) ?_
  refine s_bool rfl (x_move rfl) (fun h1 => ?_) (fun h1 => ?_)
  · skip
    refine s_out rfl ?_
    refine s_out rfl ?_
    refine s_out rfl ?_
    refine s_out rfl ?_
    refine s_out rfl ?_
    refine s_val rfl (x_pick_true rfl (by conv => lhs; whnf)) ?_
    refine s_end ?_
    refine WP_cond_true rfl ?_
    refine WP_r rfl ?_
    refine s_val rfl (x_move (by conv => lhs; whnf)) ?_
    refine s_val rfl (x_nilCheck rfl) ?_
    refine s_val rfl (x_field (off := 4) (by kernel_rfl) rfl) ?_
    refine s_store rfl (by kernel_rfl) rfl (by conv => lhs; whnf) rfl H (i := 0) rfl rfl ?_
    clear H; intro _ H
    simp only [List.set_cons_zero, List.set_cons_succ, List.setIfInBounds_toArray] at H
    refine s_end ?_
    refine WP_r rfl ?_
    refine s_val rfl (x_assign (by conv => lhs; whnf)) ?_
    refine s_end ?_
    refine WP_ret ?_
    refine thenQ_r ?_
    refine retQ_1 rfl (by conv => lhs; whnf) ?_
    have e : x.take = (false, { x with off := true }) := if_pos (by first | exact .inl h1 | exact .inr (by assumption))
    rw [e]
    exact ⟨rfl, DISK.closeL (x := { x with off := true }) ⟨hok.1, hok.2, hok.3, hok.4, hok.5, hok.6⟩ hM hF hfo H⟩
  · skip
    refine s_val rfl (x_move (by conv => lhs; whnf)) ?_
    refine s_val rfl (x_nilCheck rfl) ?_
    refine s_val rfl (x_field (off := 3) (by kernel_rfl) rfl) ?_
    refine s_val rfl (x_load (by kernel_rfl) rfl (by first | assumption | exact H.cell (i := 0) rfl rfl | exact H.cell (i := 1) rfl rfl | exact H.cell (i := 2) rfl rfl | exact H.cell (i := 3) rfl rfl | exact H.cell (i := 4) rfl rfl | exact H.cell (i := 5) rfl rfl)) ?_
    refine s_val rfl (x_eql rfl rfl) ?_
    refine s_val rfl (x_pick_false rfl (by conv => lhs; whnf)) ?_
    refine s_end ?_
    refine WP_cond_dec rfl (fun h2 => ?_) (fun h2 => ?_)
    · skip
      refine WP_r rfl ?_
      refine s_val rfl (x_move (by conv => lhs; whnf)) ?_
      refine s_val rfl (x_nilCheck rfl) ?_
      refine s_val rfl (x_field (off := 4) (by kernel_rfl) rfl) ?_
      refine s_store rfl (by kernel_rfl) rfl (by conv => lhs; whnf) rfl H (i := 0) rfl rfl ?_
      clear H; intro _ H
      simp only [List.set_cons_zero, List.set_cons_succ, List.setIfInBounds_toArray] at H
      refine s_end ?_
      refine WP_r rfl ?_
      refine s_val rfl (x_assign (by conv => lhs; whnf)) ?_
      refine s_end ?_
      refine WP_ret ?_
      refine thenQ_r ?_
      refine retQ_1 rfl (by conv => lhs; whnf) ?_
      have e : x.take = (false, { x with off := true }) := if_pos (by first | exact .inl h1 | exact .inr (by assumption))
      rw [e]
      exact ⟨rfl, DISK.closeL (x := { x with off := true }) ⟨hok.1, hok.2, hok.3, hok.4, hok.5, hok.6⟩ hM hF hfo H⟩
    · skip
      refine WP_skip ?_
      refine thenQ_n ?_
      refine WP_r rfl ?_
      refine s_val rfl (x_move (by conv => lhs; whnf)) ?_
      refine s_val rfl (x_move (by conv => lhs; whnf)) ?_
      refine s_val rfl (x_nilCheck rfl) ?_
      refine s_val rfl (x_field (off := 3) (by kernel_rfl) rfl) ?_
      refine s_val rfl (x_load (by kernel_rfl) rfl (by first | assumption | exact H.cell (i := 0) rfl rfl | exact H.cell (i := 1) rfl rfl | exact H.cell (i := 2) rfl rfl | exact H.cell (i := 3) rfl rfl | exact H.cell (i := 4) rfl rfl | exact H.cell (i := 5) rfl rfl)) ?_
      refine s_val rfl (x_subi rfl rfl (by omega)) ?_
      refine s_val rfl (x_max2 rfl rfl) ?_
      refine s_val rfl (x_nilCheck rfl) ?_
      refine s_val rfl (x_field (off := 3) (by kernel_rfl) rfl) ?_
      refine s_store rfl (by kernel_rfl) rfl (by conv => lhs; whnf) rfl H (i := 0) rfl rfl ?_
      clear H; intro _ H
      simp only [List.set_cons_zero, List.set_cons_succ, List.setIfInBounds_toArray] at H
      refine s_end ?_
      refine WP_r rfl ?_
      refine s_val rfl (x_move (by conv => lhs; whnf)) ?_
      refine s_val rfl (x_nilCheck rfl) ?_
      refine s_val rfl (x_field (off := 5) (by kernel_rfl) rfl) ?_
      refine s_val rfl (x_load (by kernel_rfl) rfl (by first | assumption | exact H.cell (i := 0) rfl rfl | exact H.cell (i := 1) rfl rfl | exact H.cell (i := 2) rfl rfl | exact H.cell (i := 3) rfl rfl | exact H.cell (i := 4) rfl rfl | exact H.cell (i := 5) rfl rfl)) ?_
      refine s_val rfl (x_add rfl rfl) ?_
      refine s_val rfl (x_nilCheck rfl) ?_
      refine s_val rfl (x_field (off := 5) (by kernel_rfl) rfl) ?_
      refine s_store rfl (by kernel_rfl) rfl (by conv => lhs; whnf) rfl H (i := 0) rfl rfl ?_
      clear H; intro _ H
      simp only [List.set_cons_zero, List.set_cons_succ, List.setIfInBounds_toArray] at H
      refine s_end ?_
      refine WP_r rfl ?_
      refine s_val rfl (x_assign (by conv => lhs; whnf)) ?_
      refine s_end ?_
      refine WP_ret ?_
      refine retQ_1 rfl (by conv => lhs; whnf) ?_
      have e : x.take = (true, { x with left := max (-1) (x.left - 1), taken := IntKind.i64.wrap (x.taken + 1) }) := if_neg fun h => h.elim (fun h => by rw [h1] at h; cases h) (fun h => h2 h)
      rw [e]
      exact ⟨rfl, DISK.closeL (x := { x with left := max (-1) (x.left - 1), taken := IntKind.i64.wrap (x.taken + 1) }) ⟨hok.1, hok.2, hok.3, hok.4, by show -1 ≤ max (-1) (x.left - 1) ∧ max (-1) (x.left - 1) ≤ 9223372036854775807; omega, wrap_bounds _⟩ hM hF hfo H⟩
theorem Sectors_calls {w : World} {d : Nat} {x : D} (h : HoldD w d x) : Calls Tryd.prog 31 #[dp d] w (Ret fun v w' => v = .int .i64 x.vals.length ∧ core w' = core w) := by
  have ⟨a, cap, fb, mb, mm, ff, R⟩ := DISK.read h
  have c0 := R.c0
  have hb := R.ok.big
  refine calls_of Tryd.func31 rfl rfl ?_
  refine WP_r rfl ?_
  refine s_val rfl (x_assign (by conv => lhs; whnf)) ?_
  refine s_end ?_
  refine WP_seq ?_
  refine WP_r rfl ?_
  refine s_val rfl (x_move (by conv => lhs; whnf)) ?_
  refine s_call rfl (by kernel_rfl) (is_calls h) rfl rfl ?_
  rintro v w1 ⟨rfl, e1⟩
  replace c0 := cell_heapEq e1 c0
  refine s_val rfl (x_not rfl) ?_
  refine s_end ?_
  refine WP_cond_false rfl ?_
  refine WP_skip ?_
  refine thenQ_n ?_
  refine WP_r rfl ?_
  refine s_val rfl (x_move (by conv => lhs; whnf)) ?_
  refine s_val rfl (x_nilCheck rfl) ?_
  refine s_val rfl (x_field (off := 0) (by kernel_rfl) rfl) ?_
  refine s_val rfl (x_load (by kernel_rfl) rfl (by first | assumption | exact H.cell (i := 0) rfl rfl | exact H.cell (i := 1) rfl rfl | exact H.cell (i := 2) rfl rfl | exact H.cell (i := 3) rfl rfl | exact H.cell (i := 4) rfl rfl | exact H.cell (i := 5) rfl rfl)) ?_
  refine s_val rfl (x_lenS (by kernel_rfl) rfl) ?_
  refine s_val rfl (x_quoi rfl rfl (by omega)) ?_
  refine s_val rfl (x_assign (by conv => lhs; whnf)) ?_
  refine s_end ?_
  refine WP_ret ?_
  refine retQ_1 rfl (by conv => lhs; whnf) ?_
  exact ⟨by rw [show ((256 * x.vals.length : Nat) : Int) / 256 = x.vals.length by omega], e1⟩
theorem Sectors_nil {w : World} : Calls Tryd.prog 31 #[.pointer none] w (Ret fun v w' => v = .int .i64 0 ∧ core w' = core w) := by
  refine calls_of Tryd.func31 rfl rfl ?_
  refine WP_r rfl ?_
  refine s_val rfl (x_assign (by conv => lhs; whnf)) ?_
  refine s_end ?_
  refine WP_seq ?_
  refine WP_r rfl ?_
  refine s_val rfl (x_move (by conv => lhs; whnf)) ?_
  refine s_call rfl (by kernel_rfl) (is_nil) rfl rfl ?_
  rintro v w1 ⟨rfl, e1⟩
  refine s_val rfl (x_not rfl) ?_
  refine s_end ?_
  refine WP_cond_true rfl ?_
  refine WP_r rfl ?_
  refine s_val rfl (x_assign (by conv => lhs; whnf)) ?_
  refine s_end ?_
  refine WP_ret ?_
  refine thenQ_r ?_
  refine retQ_1 rfl (by conv => lhs; whnf) ?_
  exact ⟨rfl, e1⟩

def D.lookE (x : D) (at_ : Int) : Int := if at_ < 0 ∨ (x.vals.length : Int) ≤ at_ then 2 else 0
theorem look_calls {w : World} {d : Nat} {x : D} (h : HoldD w d x) (at_ : Int) : Calls Tryd.prog 44 #[dp d, .int .i64 at_] w (Ret fun v w' => v = .int .i64 (x.lookE at_) ∧ core w' = core w) := by
  refine calls_of Tryd.func44 rfl rfl ?_
  refine WP_r rfl ?_
  refine s_val rfl (x_assign (by conv => lhs; whnf)) ?_
  refine s_end ?_
  refine WP_seq ?_
  refine WP_block ?_
  refine WP_r rfl ?_
  refine s_val rfl (x_move (by conv => lhs; whnf)) ?_
  refine s_call rfl (by kernel_rfl) (is_calls h) rfl rfl ?_
  rintro v w1 ⟨rfl, e1⟩
  refine s_val rfl (x_not rfl) ?_
  refine s_val rfl (x_assign (by conv => lhs; whnf)) ?_
  refine s_end ?_
  refine WP_cond_false rfl ?_
  refine WP_r rfl ?_
  refine s_val rfl (x_move (by conv => lhs; whnf)) ?_
  refine s_val rfl (x_lss rfl rfl) ?_
  refine s_dec rfl (x_move rfl) (fun h1 => ?_) (fun h1 => ?_)
  · skip
    refine s_out rfl ?_
    refine s_out rfl ?_
    refine s_out rfl ?_
    refine s_out rfl ?_
    refine s_val rfl (x_pick_true rfl (by conv => lhs; whnf)) ?_
    refine s_val rfl (x_assign (by conv => lhs; whnf)) ?_
    refine s_end ?_
    refine WP_cond_true rfl ?_
    refine WP_r rfl ?_
    refine s_val rfl (x_assign (by conv => lhs; whnf)) ?_
    refine s_end ?_
    refine WP_ret ?_
    refine blockQ_r ?_
    refine thenQ_r ?_
    refine retQ_1 rfl (by conv => lhs; whnf) ?_
    exact ⟨by unfold D.lookE; rw [if_pos (by omega)], e1⟩
  · skip
    refine s_val rfl (x_move (by conv => lhs; whnf)) ?_
    refine s_val rfl (x_move (by conv => lhs; whnf)) ?_
    refine s_call rfl (by kernel_rfl) (Sectors_calls (h.heapEq e1)) rfl rfl ?_
    rintro v w2 ⟨rfl, e2⟩
    replace e1 := e2.trans e1
    refine s_val rfl (x_geq rfl rfl) ?_
    refine s_val rfl (x_pick_false rfl (by conv => lhs; whnf)) ?_
    refine s_val rfl (x_assign (by conv => lhs; whnf)) ?_
    refine s_end ?_
    refine WP_cond_dec rfl (fun h2 => ?_) (fun h2 => ?_)
    · skip
      refine WP_r rfl ?_
      refine s_val rfl (x_assign (by conv => lhs; whnf)) ?_
      refine s_end ?_
      refine WP_ret ?_
      refine blockQ_r ?_
      refine thenQ_r ?_
      refine retQ_1 rfl (by conv => lhs; whnf) ?_
      exact ⟨by unfold D.lookE; rw [if_pos (by omega)], e1⟩
    · skip
      refine WP_skip ?_
      refine blockQ_n ?_
      refine thenQ_n ?_
      refine WP_r rfl ?_
      refine s_val rfl (x_assign (by conv => lhs; whnf)) ?_
      refine s_end ?_
      refine WP_ret ?_
      refine retQ_1 rfl (by conv => lhs; whnf) ?_
      exact ⟨by unfold D.lookE; rw [if_neg (by omega)], e1⟩
theorem look_nil {w : World} (at_ : Int) : Calls Tryd.prog 44 #[.pointer none, .int .i64 at_] w (Ret fun v w' => v = .int .i64 1 ∧ core w' = core w) := by
  refine calls_of Tryd.func44 rfl rfl ?_
  refine WP_r rfl ?_
  refine s_val rfl (x_assign (by conv => lhs; whnf)) ?_
  refine s_end ?_
  refine WP_seq ?_
  refine WP_block ?_
  refine WP_r rfl ?_
  refine s_val rfl (x_move (by conv => lhs; whnf)) ?_
  refine s_call rfl (by kernel_rfl) (is_nil) rfl rfl ?_
  rintro v w1 ⟨rfl, e1⟩
  refine s_val rfl (x_not rfl) ?_
  refine s_val rfl (x_assign (by conv => lhs; whnf)) ?_
  refine s_end ?_
  refine WP_cond_true rfl ?_
  refine WP_r rfl ?_
  refine s_val rfl (x_assign (by conv => lhs; whnf)) ?_
  refine s_end ?_
  refine WP_ret ?_
  refine blockQ_r ?_
  refine thenQ_r ?_
  refine retQ_1 rfl (by conv => lhs; whnf) ?_
  exact ⟨rfl, e1⟩
theorem Ops_calls {w : World} {d : Nat} {x : D} (h : HoldD w d x) : Calls Tryd.prog 23 #[dp d] w (Ret fun v w' => v = .int .i64 x.taken ∧ core w' = core w) := by
  obtain ⟨a, cap, fb, mb, mm, ff, R⟩ := DISK.read h
  have c5 := R.c5
  refine calls_of Tryd.func23 rfl rfl ?_
  refine WP_r rfl ?_
  refine s_val rfl (x_assign (by conv => lhs; whnf)) ?_
  refine s_end ?_
  refine WP_seq ?_
  refine WP_r rfl ?_
  refine s_val rfl (x_move (by conv => lhs; whnf)) ?_
  refine s_call rfl (by kernel_rfl) (is_calls h) rfl rfl ?_
  rintro v w1 ⟨rfl, e1⟩
  replace c5 := cell_heapEq e1 c5
  refine s_val rfl (x_not rfl) ?_
  refine s_end ?_
  refine WP_cond_false rfl ?_
  refine WP_skip ?_
  refine thenQ_n ?_
  refine WP_r rfl ?_
  refine s_val rfl (x_move (by conv => lhs; whnf)) ?_
  refine s_val rfl (x_nilCheck rfl) ?_
  refine s_val rfl (x_field (off := 5) (by kernel_rfl) rfl) ?_
  refine s_val rfl (x_load (by kernel_rfl) rfl (by first | assumption | exact H.cell (i := 0) rfl rfl | exact H.cell (i := 1) rfl rfl | exact H.cell (i := 2) rfl rfl | exact H.cell (i := 3) rfl rfl | exact H.cell (i := 4) rfl rfl | exact H.cell (i := 5) rfl rfl)) ?_
  refine s_val rfl (x_assign (by conv => lhs; whnf)) ?_
  refine s_end ?_
  refine WP_ret ?_
  refine retQ_1 rfl (by conv => lhs; whnf) ?_
  exact ⟨rfl, e1⟩
/-- How many sectors were written since the last sync. -/
def D.pend (x : D) : Nat := (x.vals.filter fun l => decide (1 < l.length)).length
theorem many_length {x : D} {mm : List (Int × Value)} (h : Many x mm) (hn : (mm.map (·.1)).Nodup) : mm.length = x.pend := by
  have key : ∀ (l : List (List Sect)) (k : Nat) (m : List Int), m.Nodup → (∀ n, n ∈ m ↔ ∃ (i : Nat) (v : List Sect), l[i]? = some v ∧ 1 < v.length ∧ n = ((k + i : Nat) : Int)) → m.length = (l.filter fun v => decide (1 < v.length)).length := by
    intro l
    induction l with
    | nil =>
      intro k m _ hm
      cases m with
      | nil => rfl
      | cons n m => obtain ⟨i, v, h, _⟩ := (hm n).1 (List.mem_cons_self ..); simp at h
    | cons u l ih =>
      intro k m hd hm
      by_cases hu : 1 < u.length
      · have hk : (k : Int) ∈ m := (hm k).2 ⟨0, u, rfl, hu, rfl⟩
        have hp : m.Perm ((k : Int) :: m.erase k) := List.perm_cons_erase hk
        rw [hp.length_eq, List.filter_cons_of_pos (by simpa using hu), List.length_cons, List.length_cons]
        congr 1
        refine ih (k + 1) (m.erase k) (hd.erase _) fun n => ?_
        rw [hd.mem_erase_iff, hm n]
        constructor
        · rintro ⟨hne, i, v, h1, h2, h3⟩
          cases i with
          | zero => exact absurd h3 hne
          | succ i => exact ⟨i, v, by simpa using h1, h2, by omega⟩
        · rintro ⟨i, v, h1, h2, h3⟩
          exact ⟨by omega, i + 1, v, by simpa using h1, h2, by omega⟩
      · rw [List.filter_cons_of_neg (by simpa using hu)]
        refine ih (k + 1) m hd fun n => ?_
        rw [hm n]
        constructor
        · rintro ⟨i, v, h1, h2, h3⟩
          cases i with
          | zero => simp at h1; subst h1; exact absurd h2 hu
          | succ i => exact ⟨i, v, by simpa using h1, h2, by omega⟩
        · rintro ⟨i, v, h1, h2, h3⟩
          exact ⟨i + 1, v, by simpa using h1, h2, by omega⟩
  have := key x.vals 0 (mm.map (·.1)) hn fun n => by
    rw [List.mem_map]
    constructor
    · rintro ⟨⟨k, v⟩, hp, rfl⟩
      obtain ⟨i, l, h1, h2, h3, _⟩ := (h k v).1 hp
      exact ⟨i, l, h1, h2, by simpa using h3⟩
    · rintro ⟨i, l, h1, h2, h3⟩
      exact ⟨(n, .int .i64 ((l.length - 1 : Nat) : Int)), (h _ _).2 ⟨i, l, h1, h2, by simpa using h3, rfl⟩, rfl⟩
  simpa [D.pend] using this
theorem Pending_calls {w : World} {d : Nat} {x : D} (h : HoldD w d x) : Calls Tryd.prog 25 #[dp d] w (Ret fun v w' => v = .int .i64 x.pend ∧ core w' = core w) := by
  obtain ⟨a, cap, fb, mb, mm, ff, R⟩ := DISK.read h
  have c2 := R.c2
  have HM := R.mapM
  have hlen : mm.length = x.pend := by
    obtain ⟨es, clock, _, hm⟩ := R.mapM
    exact many_length R.many hm.nodup
  refine calls_of Tryd.func25 rfl rfl ?_
  refine WP_r rfl ?_
  refine s_val rfl (x_assign (by conv => lhs; whnf)) ?_
  refine s_end ?_
  refine WP_seq ?_
  refine WP_r rfl ?_
  refine s_val rfl (x_move (by conv => lhs; whnf)) ?_
  refine s_call rfl (by kernel_rfl) (is_calls h) rfl rfl ?_
  rintro v w1 ⟨rfl, e1⟩
  replace c2 := cell_heapEq e1 c2
  replace HM := HM.heapEq e1
  refine s_val rfl (x_not rfl) ?_
  refine s_end ?_
  refine WP_cond_false rfl ?_
  refine WP_skip ?_
  refine thenQ_n ?_
  refine WP_r rfl ?_
  refine s_val rfl (x_move (by conv => lhs; whnf)) ?_
  refine s_val rfl (x_nilCheck rfl) ?_
  refine s_val rfl (x_field (off := 2) (by kernel_rfl) rfl) ?_
  refine s_val rfl (x_load (by kernel_rfl) rfl (by first | assumption | exact H.cell (i := 0) rfl rfl | exact H.cell (i := 1) rfl rfl | exact H.cell (i := 2) rfl rfl | exact H.cell (i := 3) rfl rfl | exact H.cell (i := 4) rfl rfl | exact H.cell (i := 5) rfl rfl)) ?_
  refine s_val rfl (x_lenMap (show Tryd.prog.underlying 81 = some (.map 3 3) by kernel_rfl) rfl HM) ?_
  refine s_val rfl (x_assign (by conv => lhs; whnf)) ?_
  refine s_end ?_
  refine WP_ret ?_
  refine retQ_1 rfl (by conv => lhs; whnf) ?_
  exact ⟨by rw [hlen], e1⟩
def D.limit (x : D) (n : Int) : D := { x with left := max (-1) n }
theorem Limit_calls {w0 w : World} {d : Nat} {x : D} {sh : List Fe} {F : HP} (hsh : RO w0 F sh) (H : Sat w0 w [DISK d x sh, F]) (n : Int) (hn : n ≤ 9223372036854775807) :
    Calls Tryd.prog 20 #[dp d, .int .i64 n] w (Ret fun v w' => v = .tuple #[] ∧ Sat w0 w' [DISK d (x.limit n) sh, F]) := by
  refine calls_of Tryd.func20 rfl rfl ?_
  refine WP_r rfl ?_
  refine s_val rfl (x_move (by conv => lhs; whnf)) ?_
  refine s_call rfl (by kernel_rfl) (is_calls (H.holdD (i := 0) rfl (j := 1) rfl hsh)) rfl rfl ?_
  rintro v w1 ⟨rfl, e1⟩
  replace H := H.heapEq e1
  clear e1
  obtain ⟨a, cap, fb, mb, mm, ff, fo, hok, hM, hF, hfo, H⟩ := DISK.openL H
  simp only [dlist, List.cons_append, List.nil_append] at H
  refine s_end ?_
  refine WP_cond_true rfl ?_
  refine WP_region rfl ?_
  refine s_val rfl (x_move (by conv => lhs; whnf)) ?_
  refine s_val rfl (x_move (by conv => lhs; whnf)) ?_
  refine s_val rfl (x_max2 rfl rfl) ?_
  refine s_val rfl (x_nilCheck rfl) ?_
  refine s_val rfl (x_field (off := 3) (by kernel_rfl) rfl) ?_
  refine s_store rfl (by kernel_rfl) rfl (by conv => lhs; whnf) rfl H (i := 0) rfl rfl ?_
  clear H; intro _ H
  simp only [List.set_cons_zero, List.set_cons_succ, List.setIfInBounds_toArray] at H
  refine s_end ?_
  refine retQ_0n rfl ?_
  exact ⟨rfl, DISK.closeL (x := x.limit n) ⟨hok.1, hok.2, hok.3, hok.4, by show -1 ≤ max (-1) n ∧ max (-1) n ≤ 9223372036854775807; omega, hok.6⟩ hM hF hfo H⟩
theorem Limit_nil {w : World} (n : Int) : Calls Tryd.prog 20 #[.pointer none, .int .i64 n] w (Ret fun v w' => v = .tuple #[] ∧ core w' = core w) := by
  refine calls_of Tryd.func20 rfl rfl ?_
  refine WP_r rfl ?_
  refine s_val rfl (x_move (by conv => lhs; whnf)) ?_
  refine s_call rfl (by kernel_rfl) (is_nil) rfl rfl ?_
  rintro v w1 ⟨rfl, e1⟩
  refine s_end ?_
  refine WP_cond_false rfl ?_
  refine WP_skip ?_
  refine retQ_0n rfl ?_
  exact ⟨rfl, e1⟩
theorem written_calls {w : World} {d : Nat} {x : D} {mb : Nat} (h : HoldD w d x) (c2 : w.cell? ⟨d, 2, none⟩ = some (.map (some mb))) :
    Calls Tryd.prog 51 #[dp d] w (Ret fun v w' => v = .map (some mb) ∧ core w' = core w) := by
  refine calls_of Tryd.func51 rfl rfl ?_
  refine WP_r rfl ?_
  refine s_val rfl (x_assign (by conv => lhs; whnf)) ?_
  refine s_end ?_
  refine WP_seq ?_
  refine WP_r rfl ?_
  refine s_val rfl (x_move (by conv => lhs; whnf)) ?_
  refine s_call rfl (by kernel_rfl) (is_calls h) rfl rfl ?_
  rintro v w1 ⟨rfl, e1⟩
  replace c2 := cell_heapEq e1 c2
  refine s_val rfl (x_not rfl) ?_
  refine s_end ?_
  refine WP_cond_false rfl ?_
  refine WP_skip ?_
  refine thenQ_n ?_
  refine WP_r rfl ?_
  refine s_val rfl (x_move (by conv => lhs; whnf)) ?_
  refine s_val rfl (x_nilCheck rfl) ?_
  refine s_val rfl (x_field (off := 2) (by kernel_rfl) rfl) ?_
  refine s_val rfl (x_load (by kernel_rfl) rfl (by first | assumption | exact H.cell (i := 0) rfl rfl | exact H.cell (i := 1) rfl rfl | exact H.cell (i := 2) rfl rfl | exact H.cell (i := 3) rfl rfl | exact H.cell (i := 4) rfl rfl | exact H.cell (i := 5) rfl rfl)) ?_
  refine s_val rfl (x_assign (by conv => lhs; whnf)) ?_
  refine s_end ?_
  refine WP_ret ?_
  refine retQ_1 rfl (by conv => lhs; whnf) ?_
  exact ⟨rfl, e1⟩
end Go.Sl
/- The disk: a sector's value, copies of bytes, reading. -/
namespace Go.Sl
open Go.Proofs

theorem bys_oneCell (l : List UInt8) : ∀ u ∈ bys l, u.oneCell' = true := by
  intro u hu
  obtain ⟨b, _, rfl⟩ := List.mem_map.1 hu
  rfl
theorem chunk {α : Type _} (k : Nat) : ∀ (l : List (List α)), (∀ v ∈ l, v.length = k) → ∀ (i : Nat) (u : List α), l[i]? = some u → (l.flatten.drop (i * k)).take k = u := by
  intro l
  induction l with
  | nil => intro _ i u h; simp at h
  | cons v l ih =>
    intro hl i u h
    have hv := hl v (List.mem_cons_self ..)
    cases i with
    | zero =>
      simp at h; subst h
      rw [List.flatten_cons, Nat.zero_mul, List.drop_zero, ← hv, List.take_left]
    | succ i =>
      rw [List.flatten_cons, Nat.succ_mul, Nat.add_comm, ← hv, List.drop_append, List.drop_eq_nil_of_le (by omega), List.nil_append, show v.length + i * v.length - v.length = i * v.length by omega, hv]
      exact ih (fun x hx => hl x (List.mem_cons_of_mem _ hx)) i u (by simpa using h)
theorem D.sure_eq (x : D) : x.sure = (x.vals.map fun l => l.headD []).flatten := by
  unfold D.sure
  rw [List.flatMap_def]
theorem D.sure_at {x : D} (h : x.Ok) {i : Nat} {l : List Sect} (hi : x.vals[i]? = some l) : (x.sure.drop (i * 256)).take 256 = l.headD [] := by
  rw [D.sure_eq]
  refine chunk 256 _ (fun v hv => ?_) i _ (by simp [hi])
  obtain ⟨u, hu, rfl⟩ := List.mem_map.1 hv
  have h1 := h.each u hu
  have h2 := h.sect u hu
  cases u with
  | nil => exact absurd rfl h1.1
  | cons s u => exact h2 s (List.mem_cons_self ..)
theorem bys_drop (l : List UInt8) (n : Nat) : (bys l).drop n = bys (l.drop n) := by simp [bys]
theorem bys_take (l : List UInt8) (n : Nat) : (bys l).take n = bys (l.take n) := by simp [bys]
theorem lk_mem {κ : Type} [DecidableEq κ] {m : List (κ × Value)} (hn : (m.map (·.1)).Nodup) {k : κ} {v : Value} (h : (k, v) ∈ m) : lk m k = some v := by
  unfold lk
  induction m with
  | nil => cases h
  | cons p m ih =>
    rw [List.map_cons, List.nodup_cons] at hn
    rcases List.mem_cons.1 h with rfl | h
    · simp
    · have hne : ¬ p.1 = k := fun e => hn.1 (List.mem_map.2 ⟨(k, v), h, e.symm⟩)
      rw [List.find?_cons_of_neg (by simpa using hne)]
      exact ih hn.2 h
theorem lk_none {κ : Type} [DecidableEq κ] {m : List (κ × Value)} {k : κ} (h : ∀ v, (k, v) ∉ m) : lk m k = none := by
  unfold lk
  rw [Option.map_eq_none_iff, List.find?_eq_none]
  intro p hp
  simp only [decide_eq_true_eq]
  intro e
  exact h p.2 (by rw [← e]; exact hp)
theorem MapAt.nodup {κ : Type} {w : World} {kf : κ → Value} {b : Nat} {m : List (κ × Value)} (h : MapAt w kf b m) : (m.map (·.1)).Nodup := by
  obtain ⟨_, _, _, hm⟩ := h; exact hm.nodup
theorem keyT_many : KeyT Tryd.prog 3 intF := keyT_int (by kernel_rfl)
theorem keyT_spot : KeyT Tryd.prog 102 pairF := keyT_pair (f1 := ((match Tryd.prog.underlying 102 with | some (.struct fs) => fs | _ => #[]).getD 0 default)) (f2 := ((match Tryd.prog.underlying 102 with | some (.struct fs) => fs | _ => #[]).getD 1 default))
  ⟨by kernel_rfl, by kernel_rfl, by kernel_rfl, by kernel_rfl, by kernel_rfl, by kernel_rfl, by kernel_rfl, by kernel_rfl⟩
/-- A sector's sure value: a piece of the sure bytes. -/
theorem value0_calls {w : World} {d n i cap : Nat} {a : Option Addr} {S : List UInt8} (c0 : w.cell? ⟨d, 0, none⟩ = some (.slice a (256 * n) cap)) (HR : Rd w a (256 * n) cap 1 (bys S)) (hi : i < n) (hb : n ≤ 4096) :
    Calls Tryd.prog 46 #[dp d, .int .i64 i, .int .i64 (0 : Nat)] w (Ret fun v w' => ∃ a cap, v = .slice a 256 cap ∧ Rd w' a 256 cap 1 (bys ((S.drop (i * 256)).take 256)) ∧ core w' = core w) := by
  refine calls_of Tryd.func46 rfl rfl ?_
  refine WP_r rfl ?_
  refine s_val rfl (x_assign (by conv => lhs; whnf)) ?_
  refine s_end ?_
  refine WP_seq ?_
  refine WP_r rfl ?_
  refine s_val rfl (x_move (by conv => lhs; whnf)) ?_
  refine s_val rfl (x_eql rfl rfl) ?_
  refine s_end ?_
  refine WP_cond_true rfl ?_
  refine WP_r rfl ?_
  refine s_val rfl (x_move (by conv => lhs; whnf)) ?_
  refine s_val rfl (x_nilCheck rfl) ?_
  refine s_val rfl (x_field (off := 0) (by kernel_rfl) rfl) ?_
  refine s_val rfl (x_load (by kernel_rfl) rfl (by first | assumption | exact H.cell (i := 0) rfl rfl | exact H.cell (i := 1) rfl rfl | exact H.cell (i := 2) rfl rfl | exact H.cell (i := 3) rfl rfl | exact H.cell (i := 4) rfl rfl | exact H.cell (i := 5) rfl rfl)) ?_
  refine s_val rfl (x_move (by conv => lhs; whnf)) ?_
  refine s_val rfl (x_muli rfl rfl (by omega)) ?_
  refine s_val rfl (x_move (by conv => lhs; whnf)) ?_
  refine s_val rfl (x_addi rfl rfl (by omega)) ?_
  refine s_val rfl (x_muli rfl rfl (by omega)) ?_
  refine s_val rfl (x_slice (show SlT Tryd.prog 44 5 1 1 from ⟨by kernel_rfl, by kernel_rfl⟩) rfl rfl rfl (by omega) (by omega) (by omega) HR.2.1) ?_
  refine s_val rfl (x_assign (by conv => lhs; whnf)) ?_
  refine s_end ?_
  refine WP_ret ?_
  refine thenQ_r ?_
  refine retQ_1 rfl (by conv => lhs; whnf) ?_
  have hs := cutAt_sub (lo := i * 256) (hi := i * 256 + 256) HR (by omega) (by omega)
  have hsub := HR.sub (k := i * 256) (n' := 256) (cap' := cap - i * 256) (by simpa using hs) (by omega) (by have := HR.2.1; omega)
  refine ⟨cutAt a cap (i * 256) 1, cap - i * 256, ?_, ?_, rfl⟩
  · rw [show ((i : Int) * 256).toNat = i * 256 by omega, show (((i : Int) + 1) * 256).toNat - i * 256 = 256 by omega]
  · simp only [bys_drop, Nat.mul_one, bys_take] at hsub
    exact hsub
/-- A value that was written. -/
theorem valueN_calls {w : World} {d fb i j : Nat} {ff : List Fe} {e : Fe} (c1 : w.cell? ⟨d, 1, none⟩ = some (.map (some fb))) (HM : MapAt w pairF fb (ff.map Fe.pair)) (he : e ∈ ff) (hk : e.key = ((i : Int), (j : Int))) (hj : 1 ≤ j)
    (hr : Rd w e.a 256 e.cap 1 (bys e.bs)) : Calls Tryd.prog 46 #[dp d, .int .i64 i, .int .i64 j] w (Ret fun v w' => ∃ a cap, v = .slice a 256 cap ∧ Rd w' a 256 cap 1 (bys e.bs) ∧ core w' = core w) := by
  have hlk : (lk (ff.map Fe.pair) ((i : Int), (j : Int))).getD (.slice none 0 0) = .slice e.a 256 e.cap := by
    rw [lk_mem HM.nodup (List.mem_map.2 ⟨e, he, by rw [← hk]; rfl⟩)]; rfl
  refine calls_of Tryd.func46 rfl rfl ?_
  refine WP_r rfl ?_
  refine s_val rfl (x_assign (by conv => lhs; whnf)) ?_
  refine s_end ?_
  refine WP_seq ?_
  refine WP_r rfl ?_
  refine s_val rfl (x_move (by conv => lhs; whnf)) ?_
  refine s_val rfl (x_eql rfl rfl) ?_
  refine s_end ?_
  refine WP_cond_dec rfl (fun h1 => ?_) (fun h1 => ?_)
  · exact absurd h1 (by omega) --done
  · skip
    refine WP_skip ?_
    refine thenQ_n ?_
    refine WP_r rfl ?_
    refine s_val rfl (x_move (by conv => lhs; whnf)) ?_
    refine s_val rfl (x_nilCheck rfl) ?_
    refine s_val rfl (x_field (off := 1) (by kernel_rfl) rfl) ?_
    refine s_val rfl (x_load (by kernel_rfl) rfl (by first | assumption | exact H.cell (i := 0) rfl rfl | exact H.cell (i := 1) rfl rfl | exact H.cell (i := 2) rfl rfl | exact H.cell (i := 3) rfl rfl | exact H.cell (i := 4) rfl rfl | exact H.cell (i := 5) rfl rfl)) ?_
    refine s_val rfl (x_move (by conv => lhs; whnf)) ?_
    refine s_val rfl (x_move (by conv => lhs; whnf)) ?_
    refine s_val rfl (x_build (show StT Tryd.prog 102 #[.int .i64 0, .int .i64 0] #[(0, 1), (1, 1)] from ⟨by kernel_rfl, by kernel_rfl⟩) rfl (show _ = some [_, _] from rfl)) ?_
    refine s_val rfl (x_lookupV (show Tryd.prog.underlying 80 = some (.map 102 44) by kernel_rfl) keyT_spot (show ZeroT Tryd.prog 44 (.slice none 0 0) by unfold ZeroT; kernel_rfl) hlk rfl (k := ((i : Int), (j : Int))) rfl HM) ?_
    refine s_val rfl (x_assign (by conv => lhs; whnf)) ?_
    refine s_end ?_
    refine WP_ret ?_
    refine retQ_1 rfl (by conv => lhs; whnf) ?_
    exact ⟨e.a, e.cap, rfl, hr, rfl⟩
/-- One of a sector's values: a slice that reads as it. -/
theorem value_calls {w : World} {d : Nat} {x : D} (h : HoldD w d x) {i j : Nat} {l : List Sect} {bs : Sect} (hi : x.vals[i]? = some l) (hj : l[j]? = some bs) :
    Calls Tryd.prog 46 #[dp d, .int .i64 i, .int .i64 j] w (Ret fun v w' => ∃ a cap, v = .slice a 256 cap ∧ Rd w' a 256 cap 1 (bys bs) ∧ core w' = core w) := by
  obtain ⟨a, cap, fb, mb, mm, ff, R⟩ := DISK.read h
  have hil : i < x.vals.length := (List.getElem?_eq_some_iff.1 hi).1
  rcases Nat.eq_zero_or_pos j with q | q
  · subst q
    have hl : l.headD [] = bs := by cases l with | nil => simp at hj | cons s l => simpa using hj
    have := value0_calls R.c0 R.sure hil R.ok.big
    rw [D.sure_at R.ok hi, hl] at this
    exact this
  · obtain ⟨e, he, hk, hbs⟩ := (R.fresh i j bs).2 ⟨i, j, l, hi, q, hj, rfl, rfl⟩
    have := valueN_calls R.c1 R.mapF he hk q (R.rds e he)
    rw [hbs] at this
    exact this
theorem zByte : ∃ z, ZeroT Tryd.prog 5 z ∧ z.cells.size = 1 := ⟨.int .u8 0, by unfold ZeroT; kernel_rfl, rfl⟩
/-- slices.Clone of bytes. -/
theorem CloneB_calls {w : World} {a : Option Addr} {n cap : Nat} {bs : List UInt8} (HR : Rd w a n cap 1 (bys bs)) (hn : n ≤ 140737488355328) :
    Calls Tryd.prog 45 #[.slice a n cap] w (Ret fun v w' => ∃ a' cap', v = .slice a' n cap' ∧ Sat w w' [slo 5 1 a' n cap' (bys bs)]) := by
  refine calls_of Tryd.func45 rfl rfl ?_
  refine WP_r rfl ?_
  refine s_val rfl (x_assign (by conv => lhs; whnf)) ?_
  refine s_end ?_
  refine WP_seq ?_
  refine WP_r rfl ?_
  refine s_val rfl (x_move (by conv => lhs; whnf)) ?_
  refine s_val rfl (x_eqlSlNil (by kernel_rfl) rfl) ?_
  refine s_end ?_
  refine WP_cond rfl (fun h1 => ?_) (fun h1 => ?_)
  · skip
    refine WP_r rfl ?_
    refine s_val rfl (x_assign (by conv => lhs; whnf)) ?_
    refine s_end ?_
    refine WP_ret ?_
    refine thenQ_r ?_
    refine retQ_1 rfl (by conv => lhs; whnf) ?_
    have ha : a = none := by simpa using h1
    have h0 : n = 0 := by
      rcases Nat.eq_zero_or_pos n with q | q
      · exact q
      · obtain ⟨b, off, hb, _⟩ := HR.2.2 q
        rw [ha] at hb; cases hb
    have hbs : bs = [] := by
      have := HR.1
      rw [bys_length, h0] at this
      exact List.length_eq_zero_iff.1 (by omega)
    subst h0 hbs
    exact ⟨none, 0, rfl, (Sat.nil (Ext.refl w)).addNil _ _⟩
  · skip
    refine WP_skip ?_
    refine thenQ_n ?_
    refine WP_r rfl ?_
    refine s_buildSlice (vs := []) rfl (show SlT Tryd.prog 44 5 1 1 from ⟨by kernel_rfl, by kernel_rfl⟩) zByte rfl rfl (by simp) (by decide) (Sat.nil (Ext.refl w)) ?_
    intro b w1 H
    simp only [List.nil_append, List.flatMap_nil] at H
    refine s_val rfl (x_move (by conv => lhs; whnf)) ?_
    refine s_append rfl (show SlT Tryd.prog 44 5 1 1 from ⟨by kernel_rfl, by kernel_rfl⟩) zByte ⟨_, (show SlT Tryd.prog 44 5 1 1 from ⟨by kernel_rfl, by kernel_rfl⟩).und⟩ rfl rfl H (i := 0) rfl (HR.ext H.ext) (bys_oneCell _) (by omega) (by omega) ?_
    intro a' cap' w2 H2
    simp only [List.set_cons_zero, List.nil_append, Nat.zero_add] at H2
    rw [Nat.zero_add]
    refine s_val rfl (x_assign (by conv => lhs; whnf)) ?_
    refine s_end ?_
    refine WP_ret ?_
    refine retQ_1 rfl (by conv => lhs; whnf) ?_
    exact ⟨a', cap', rfl, H2⟩
/-- A sector's latest value. -/
def D.latest (x : D) (i : Nat) : Sect := (x.vals.getD i []).getLastD []
def D.read (x : D) (at_ : Int) : Int × List UInt8 := if at_ < 0 ∨ (x.vals.length : Int) ≤ at_ then (2, []) else if x.off = true then (10, []) else (0, x.latest at_.toNat)
theorem D.latest_at {x : D} (h : x.Ok) {i : Nat} (hi : i < x.vals.length) : ∃ l, x.vals[i]? = some l ∧ l[l.length - 1]? = some (x.latest i) ∧ (x.latest i).length = 256 := by
  have hl : x.vals[i]? = some x.vals[i] := by simp [hi]
  have h1 := h.each _ (List.getElem_mem hi)
  have h3 : x.latest i = x.vals[i].getLastD [] := by unfold D.latest; simp [List.getD_eq_getElem?_getD, hl]
  have h2 : x.vals[i][x.vals[i].length - 1]? = some (x.latest i) := by
    rw [h3, ← List.getLast?_eq_getElem?, List.getLastD_eq_getLast?]
    cases hq : x.vals[i].getLast? with
    | none => exact absurd (List.getLast?_eq_none_iff.1 hq) h1.1
    | some u => rfl
  exact ⟨_, hl, h2, h.sect _ (List.getElem_mem hi) _ (List.mem_of_getElem? h2)⟩
theorem many_look {x : D} {mm : List (Int × Value)} (hM : Many x mm) (hn : (mm.map (·.1)).Nodup) {i : Nat} {l : List Sect} (hi : x.vals[i]? = some l) (hl : l ≠ []) :
    (lk mm (i : Int)).getD (.int .i64 0) = .int .i64 ((l.length - 1 : Nat) : Int) := by
  by_cases h1 : 1 < l.length
  · rw [lk_mem hn ((hM _ _).2 ⟨i, l, hi, h1, rfl, rfl⟩)]; rfl
  · have : l.length = 1 := by
      have : l.length ≠ 0 := fun e => hl (List.length_eq_zero_iff.1 e)
      omega
    rw [lk_none fun v hv => ?_, this]
    · rfl
    · obtain ⟨i', l', h2, h3, h4, _⟩ := (hM _ _).1 hv
      have : i = i' := by omega
      subst this
      rw [hi] at h2; injection h2 with h2; subst h2; omega
theorem Read_calls {w : World} {d : Nat} {x : D} (h : HoldD w d x) (at_ : Int) : Calls Tryd.prog 19 #[dp d, .int .i64 at_] w (Ret fun v w' =>
    ∃ a n cap, v = .tuple #[.slice a n cap, .int .i64 (x.read at_).1] ∧ Sat w w' [slo 5 1 a n cap (bys (x.read at_).2)]) := by
  have ⟨a, cap, fb, mb, mm, ff, R⟩ := DISK.read h
  have c4 := R.c4
  have c2 := R.c2
  have HM := R.mapM
  have hb := R.ok.big
  refine calls_of Tryd.func19 rfl rfl ?_
  refine WP_r rfl ?_
  refine s_val rfl (x_assign (by conv => lhs; whnf)) ?_
  refine s_val rfl (x_assign (by conv => lhs; whnf)) ?_
  refine s_end ?_
  refine WP_r rfl ?_
  refine s_val rfl (x_move (by conv => lhs; whnf)) ?_
  refine s_val rfl (x_move (by conv => lhs; whnf)) ?_
  refine s_call rfl (by kernel_rfl) (look_calls h at_) rfl rfl ?_
  rintro v w1 ⟨rfl, e1⟩
  replace c4 := cell_heapEq e1 c4
  replace c2 := cell_heapEq e1 c2
  replace HM := HM.heapEq e1
  replace h := h.heapEq e1
  have hx := (Sat.nil (Ext.refl w)).heapEq e1
  clear R
  refine s_val rfl (x_assign (by conv => lhs; whnf)) ?_
  refine s_end ?_
  refine WP_seq ?_
  refine WP_block ?_
  refine WP_r rfl ?_
  refine s_val rfl (x_move (by conv => lhs; whnf)) ?_
  refine s_val rfl (x_neq (a := x.lookE at_) (b := 0) rfl rfl) ?_
  refine s_val rfl (x_assign (by conv => lhs; whnf)) ?_
  refine s_end ?_
  refine WP_cond_dec rfl (fun h1 => ?_) (fun h1 => ?_)
  · skip
    refine WP_r rfl ?_
    refine s_val rfl (x_move (by conv => lhs; whnf)) ?_
    refine s_val rfl (x_assign (by conv => lhs; whnf)) ?_
    refine s_val rfl (x_assign (by conv => lhs; whnf)) ?_
    refine s_end ?_
    refine WP_ret ?_
    refine blockQ_r ?_
    refine thenQ_r ?_
    refine retQ_2 rfl (by conv => lhs; whnf) (by conv => lhs; whnf) ?_
    have hl : at_ < 0 ∨ (x.vals.length : Int) ≤ at_ := by
      unfold D.lookE at h1
      split at h1
      · assumption
      · exact absurd rfl h1
    refine ⟨none, 0, 0, ?_, ?_⟩
    · unfold D.read D.lookE; rw [if_pos hl, if_pos hl]
    · unfold D.read; rw [if_pos hl]; exact hx.addNil _ _
  · skip
    have hl : ¬ (at_ < 0 ∨ (x.vals.length : Int) ≤ at_) := by
      intro q
      unfold D.lookE at h1
      rw [if_pos q] at h1
      exact h1 (by decide)
    refine WP_r rfl ?_
    refine s_val rfl (x_move (by conv => lhs; whnf)) ?_
    refine s_val rfl (x_nilCheck rfl) ?_
    refine s_val rfl (x_field (off := 4) (by kernel_rfl) rfl) ?_
    refine s_val rfl (x_load (by kernel_rfl) rfl (by first | assumption | exact H.cell (i := 0) rfl rfl | exact H.cell (i := 1) rfl rfl | exact H.cell (i := 2) rfl rfl | exact H.cell (i := 3) rfl rfl | exact H.cell (i := 4) rfl rfl | exact H.cell (i := 5) rfl rfl)) ?_
    refine s_val rfl (x_assign (by conv => lhs; whnf)) ?_
    refine s_end ?_
    refine WP_cond rfl (fun h2 => ?_) (fun h2 => ?_)
    · skip
      refine WP_r rfl ?_
      refine s_val rfl (x_assign (by conv => lhs; whnf)) ?_
      refine s_val rfl (x_assign (by conv => lhs; whnf)) ?_
      refine s_end ?_
      refine WP_ret ?_
      refine blockQ_r ?_
      refine thenQ_r ?_
      refine retQ_2 rfl (by conv => lhs; whnf) (by conv => lhs; whnf) ?_
      refine ⟨none, 0, 0, ?_, ?_⟩
      · unfold D.read; rw [if_neg hl, if_pos h2]
      · unfold D.read; rw [if_neg hl, if_pos h2]; exact hx.addNil _ _
    · skip
      refine WP_skip ?_
      refine blockQ_n ?_
      refine thenQ_n ?_
      obtain ⟨i, rfl⟩ : ∃ i : Nat, at_ = i := ⟨at_.toNat, by omega⟩
      have ⟨a, cap, fb', mb', mm', ff', R⟩ := DISK.read h
      obtain ⟨l, hli, hlast, hlen⟩ := D.latest_at R.ok (i := i) (by omega)
      have hlk := many_look R.many R.mapM.nodup hli (R.ok.each l (List.mem_of_getElem? hli)).1
      replace c2 := R.c2
      replace HM := R.mapM
      refine WP_r rfl ?_
      refine s_val rfl (x_move (by conv => lhs; whnf)) ?_
      refine s_val rfl (x_move (by conv => lhs; whnf)) ?_
      refine s_val rfl (x_move (by conv => lhs; whnf)) ?_
      refine s_val rfl (x_nilCheck rfl) ?_
      refine s_val rfl (x_field (off := 2) (by kernel_rfl) rfl) ?_
      refine s_val rfl (x_load (by kernel_rfl) rfl (by first | assumption | exact H.cell (i := 0) rfl rfl | exact H.cell (i := 1) rfl rfl | exact H.cell (i := 2) rfl rfl | exact H.cell (i := 3) rfl rfl | exact H.cell (i := 4) rfl rfl | exact H.cell (i := 5) rfl rfl)) ?_
      refine s_val rfl (x_move (by conv => lhs; whnf)) ?_
      refine s_val rfl (x_lookupV (show Tryd.prog.underlying 81 = some (.map 3 3) by kernel_rfl) keyT_many (show ZeroT Tryd.prog 3 (.int .i64 0) by unfold ZeroT; kernel_rfl) hlk rfl (k := (i : Int)) rfl HM) ?_
      refine s_call rfl (by kernel_rfl) (value_calls h hli hlast) rfl rfl ?_
      rintro v w2 ⟨a2, cap2, rfl, hr2, e2⟩
      refine s_call rfl (by kernel_rfl) (CloneB_calls hr2 (by omega)) rfl rfl ?_
      rintro v w3 ⟨a3, cap3, rfl, H3⟩
      have hx2 := (hx.heapEq e2).more H3
      refine s_val rfl (x_assign (by conv => lhs; whnf)) ?_
      refine s_val rfl (x_assign (by conv => lhs; whnf)) ?_
      refine s_end ?_
      refine WP_ret ?_
      refine retQ_2 rfl (by conv => lhs; whnf) (by conv => lhs; whnf) ?_
      refine ⟨a3, 256, cap3, ?_, ?_⟩
      · unfold D.read; rw [if_neg hl, if_neg (by rw [h2]; decide)]
      · unfold D.read; rw [if_neg hl, if_neg (by rw [h2]; decide)]; exact hx2
end Go.Sl
/- The disk: writing. -/
namespace Go.Sl
open Go.Proofs

theorem pt_mem {κ : Type} [DecidableEq κ] {m : List (κ × Value)} (k : κ) (v : Value) (k' : κ) (v' : Value) :
    (k', v') ∈ pt m k v ↔ (k' = k ∧ v' = v) ∨ (k' ≠ k ∧ (k', v') ∈ m) := by
  unfold pt
  split
  · rename_i hs
    obtain ⟨p, hp, hpk⟩ : ∃ p ∈ m, p.1 = k := by
      unfold lk at hs
      rw [Option.isSome_map, List.find?_isSome] at hs
      obtain ⟨p, h1, h2⟩ := hs
      exact ⟨p, h1, by simpa using h2⟩
    rw [List.mem_map]
    constructor
    · rintro ⟨q, hq, e⟩
      by_cases hqk : q.1 = k
      · rw [if_pos hqk] at e
        injection e with e1 e2
        exact .inl ⟨e1.symm, e2.symm⟩
      · rw [if_neg hqk] at e
        subst e
        exact .inr ⟨hqk, hq⟩
    · rintro (⟨rfl, rfl⟩ | ⟨h1, h2⟩)
      · exact ⟨p, hp, by rw [if_pos hpk]⟩
      · exact ⟨_, h2, by rw [if_neg h1]⟩
  · rename_i hs
    rw [List.mem_append]
    have hno : ∀ u, (k, u) ∉ m := fun u hu => hs (by
      unfold lk
      rw [Option.isSome_map, List.find?_isSome]
      exact ⟨_, hu, by simp⟩)
    constructor
    · rintro (h | h)
      · refine .inr ⟨?_, h⟩
        rintro rfl
        exact hno _ h
      · simp at h
        exact .inl h
    · rintro (⟨rfl, rfl⟩ | ⟨h1, h2⟩)
      · exact .inr (by simp)
      · exact .inl h2
theorem Sat.absorb {w0 w : World} {L M : List HP} {i : Nat} {p : HP} (H : Sat w0 w (L ++ [p])) (hi : L[i]? = some (stars M)) : Sat w0 w (L.set i (stars (M ++ [p]))) := by
  have h1 : (L ++ [p]).Perm (stars M :: (p :: L.eraseIdx i)) := (((perm_pick hi).append_right [p])).trans (by
    rw [List.cons_append]
    exact (List.perm_append_comm (l₁ := L.eraseIdx i) (l₂ := [p])).cons _)
  have h2 := (H.perm h1).join
  have h3 : Sat w0 w ((M ++ [p]) ++ L.eraseIdx i) := by simpa using h2
  exact h3.part.perm (perm_set (lt_of_pick hi) _)

def D.put (x : D) (i : Nat) (b : Sect) : D := { x with vals := x.vals.set i (x.vals.getD i [] ++ [b]) }
def D.write (x : D) (at_ : Int) (b : List UInt8) : Int × D :=
  if at_ < 0 ∨ (x.vals.length : Int) ≤ at_ then (2, x) else if b.length ≠ 256 then (2, x) else if x.take.1 = false then (10, x.take.2) else (0, x.take.2.put at_.toNat b)
theorem take_vals (x : D) : x.take.2.vals = x.vals := by
  unfold D.take
  split <;> rfl
theorem take_ok {x : D} (h : x.Ok) : x.take.2.Ok := by
  have hl := h.left
  unfold D.take
  split
  · exact ⟨h.1, h.2, h.3, h.4, h.5, h.6⟩
  · exact ⟨h.1, h.2, h.3, h.4, by show -1 ≤ max (-1) (x.left - 1) ∧ max (-1) (x.left - 1) ≤ 9223372036854775807; omega, wrap_bounds _⟩
theorem put_many {x : D} {mm : List (Int × Value)} (h : Many x mm) {i : Nat} {l : List Sect} (hi : x.vals[i]? = some l) (hl : l ≠ []) (b : Sect) :
    Many (x.put i b) (pt mm (i : Int) (.int .i64 (((l.length - 1 : Nat) : Int) + 1))) := by
  have hil := (List.getElem?_eq_some_iff.1 hi).1
  have hg : x.vals.getD i [] = l := by simp [List.getD_eq_getElem?_getD, hi]
  have hpos : 0 < l.length := List.length_pos_iff.2 hl
  intro k v
  rw [pt_mem]
  constructor
  · rintro (⟨rfl, rfl⟩ | ⟨h1, h2⟩)
    · refine ⟨i, l ++ [b], ?_, by simp; omega, rfl, by simp; omega⟩
      show (x.vals.set i (x.vals.getD i [] ++ [b]))[i]? = _
      rw [hg]; simp [hil]
    · obtain ⟨j, l', h3, h4, h5, h6⟩ := (h k v).1 h2
      refine ⟨j, l', ?_, h4, h5, h6⟩
      show (x.vals.set i (x.vals.getD i [] ++ [b]))[j]? = _
      rw [List.getElem?_set_ne (by omega)]; exact h3
  · rintro ⟨j, l', h3, h4, h5, h6⟩
    have h3' : (x.vals.set i (x.vals.getD i [] ++ [b]))[j]? = some l' := h3
    by_cases hij : i = j
    · subst hij
      rw [hg] at h3'
      simp [hil] at h3'
      subst h3'
      left
      refine ⟨h5, ?_⟩
      rw [h6]
      simp
      omega
    · rw [List.getElem?_set_ne hij] at h3'
      exact .inr ⟨by omega, (h k v).2 ⟨j, l', h3', h4, h5, h6⟩⟩
theorem put_fresh {x : D} {ff : List Fe} (h : Fresh x ff) {i : Nat} {l : List Sect} (hi : x.vals[i]? = some l) (hl : l ≠ []) (b : Sect) (a : Option Addr) (cap : Nat) :
    Fresh (x.put i b) (ff ++ [⟨i, ((l.length - 1 : Nat) : Int) + 1, a, cap, b⟩]) := by
  have hil := (List.getElem?_eq_some_iff.1 hi).1
  have hg : x.vals.getD i [] = l := by simp [List.getD_eq_getElem?_getD, hi]
  have hpos : 0 < l.length := List.length_pos_iff.2 hl
  intro k1 k2 bs
  constructor
  · rintro ⟨e, he, hk, hb⟩
    rcases List.mem_append.1 he with he | he
    · obtain ⟨i', j, l', h1, h2, h3, h4, h5⟩ := (h k1 k2 bs).1 ⟨e, he, hk, hb⟩
      by_cases hii : i = i'
      · subst hii
        rw [hi] at h1; injection h1 with h1; subst h1
        refine ⟨i, j, l ++ [b], ?_, h2, ?_, h4, h5⟩
        · show (x.vals.set i (x.vals.getD i [] ++ [b]))[i]? = _
          rw [hg]; simp [hil]
        · rw [List.getElem?_append_left (List.getElem?_eq_some_iff.1 h3).1]; exact h3
      · refine ⟨i', j, l', ?_, h2, h3, h4, h5⟩
        show (x.vals.set i (x.vals.getD i [] ++ [b]))[i']? = _
        rw [List.getElem?_set_ne hii]; exact h1
    · simp only [List.mem_singleton] at he
      subst he
      injection hk with hk1 hk2
      refine ⟨i, l.length, l ++ [b], ?_, hpos, ?_, hk1.symm, ?_⟩
      · show (x.vals.set i (x.vals.getD i [] ++ [b]))[i]? = _
        rw [hg]; simp [hil]
      · rw [List.getElem?_append_right (Nat.le_refl _)]; simp; exact hb
      · rw [← hk2]; show ((l.length - 1 : Nat) : Int) + 1 = _; omega
  · rintro ⟨i', j, l', h1, h2, h3, h4, h5⟩
    have h1' : (x.vals.set i (x.vals.getD i [] ++ [b]))[i']? = some l' := h1
    by_cases hii : i = i'
    · subst hii
      rw [hg] at h1'
      simp [hil] at h1'
      subst h1'
      by_cases hj : j < l.length
      · rw [List.getElem?_append_left hj] at h3
        obtain ⟨e, he, hk, hb⟩ := (h k1 k2 bs).2 ⟨i, j, l, hi, h2, h3, h4, h5⟩
        exact ⟨e, List.mem_append.2 (.inl he), hk, hb⟩
      · have hj2 : j = l.length := by
          have := (List.getElem?_eq_some_iff.1 h3).1
          simp at this; omega
        subst hj2
        rw [List.getElem?_append_right (Nat.le_refl _)] at h3
        simp at h3
        refine ⟨_, List.mem_append.2 (.inr (List.mem_singleton.2 rfl)), ?_, h3⟩
        show ((i : Int), ((l.length - 1 : Nat) : Int) + 1) = (k1, k2)
        rw [h4, h5]; congr 1; omega
    · rw [List.getElem?_set_ne hii] at h1'
      obtain ⟨e, he, hk, hb⟩ := (h k1 k2 bs).2 ⟨i', j, l', h1', h2, h3, h4, h5⟩
      exact ⟨e, List.mem_append.2 (.inl he), hk, hb⟩
theorem put_ok {x : D} (h : x.Ok) {i : Nat} {b : Sect} (hb : b.length = 256) (hc : (x.vals.getD i []).length < 4611686018427387904) : (x.put i b).Ok := by
  have hmem : ∀ l ∈ x.vals.set i (x.vals.getD i [] ++ [b]), l ∈ x.vals ∨ (l = x.vals.getD i [] ++ [b] ∧ i < x.vals.length) := by
    intro l hl
    rcases Nat.lt_or_ge i x.vals.length with q | q
    · rcases List.mem_or_eq_of_mem_set hl with h1 | h1
      · exact .inl h1
      · exact .inr ⟨h1, q⟩
    · rw [List.set_eq_of_length_le q] at hl; exact .inl hl
  refine ⟨by show 0 < (x.vals.set i _).length; simpa using h.pos, by show (x.vals.set i _).length ≤ 4096; simpa using h.big, fun l hl => ?_, fun l hl s hs => ?_, h.5, h.6⟩
  · rcases hmem l hl with h1 | ⟨h1, _⟩
    · exact h.each l h1
    · subst h1; exact ⟨by simp, by rw [List.length_append, List.length_singleton]; omega⟩
  · rcases hmem l hl with h1 | ⟨h1, hlt⟩
    · exact h.sect l h1 s hs
    · subst h1
      rcases List.mem_append.1 hs with h2 | h2
      · refine h.sect _ (List.getElem_mem hlt) s ?_
        simpa [List.getD_eq_getElem?_getD, hlt] using h2
      · simp at h2; subst h2; exact hb
theorem put_sure {x : D} (h : x.Ok) (i : Nat) (b : Sect) : (x.put i b).sure = x.sure := by
  have e : (x.put i b).vals.map (fun l => l.headD []) = x.vals.map fun l => l.headD [] := by
    apply List.ext_getElem?
    intro j
    show ((x.vals.set i _).map _)[j]? = _
    rw [List.getElem?_map, List.getElem?_map]
    by_cases hij : i = j
    · subst hij
      rcases Nat.lt_or_ge i x.vals.length with q | q
      · have h1 := (h.each _ (List.getElem_mem q)).1
        simp only [List.getElem?_set_self q, List.getD_eq_getElem?_getD, List.getElem?_eq_getElem q, Option.getD_some, Option.map_some]
        cases hv : x.vals[i] with
        | nil => exact absurd hv h1
        | cons s l => rfl
      · rw [List.set_eq_of_length_le q]
    · rw [List.getElem?_set_ne hij]
  rw [D.sure_eq, D.sure_eq, e]
theorem Write_calls {w0 w : World} {d : Nat} {x : D} {sh : List Fe} {F : HP} (hsh : RO w0 F sh) (H : Sat w0 w [DISK d x sh, F]) (at_ : Int) {a : Option Addr} {n cap : Nat} {bs : List UInt8}
    (hR : ∀ w', Sat w0 w' [F] → Rd w' a n cap 1 (bys bs)) (hc : ∀ l ∈ x.vals, l.length < 4611686018427387904) :
    Calls Tryd.prog 41 #[dp d, .int .i64 at_, .slice a n cap] w (Ret fun v w' => v = .int .i64 (x.write at_ bs).1 ∧ Sat w0 w' [DISK d (x.write at_ bs).2 sh, F]) := by
  have hn : n = bs.length := by
    have := (hR w (H.drop 0)).1
    rw [bys_length] at this; omega
  refine calls_of Tryd.func41 rfl rfl ?_
  refine WP_r rfl ?_
  refine s_val rfl (x_assign (by conv => lhs; whnf)) ?_
  refine s_end ?_
  refine WP_r rfl ?_
  refine s_val rfl (x_move (by conv => lhs; whnf)) ?_
  refine s_val rfl (x_move (by conv => lhs; whnf)) ?_
  refine s_call rfl (by kernel_rfl) (look_calls (H.holdD (i := 0) rfl (j := 1) rfl hsh) at_) rfl rfl ?_
  rintro v w1 ⟨rfl, e1⟩
  replace H := H.heapEq e1
  clear e1
  refine s_val rfl (x_assign (by conv => lhs; whnf)) ?_
  refine s_end ?_
  refine WP_seq ?_
  refine WP_block ?_
  refine WP_r rfl ?_
  refine s_val rfl (x_move (by conv => lhs; whnf)) ?_
  refine s_val rfl (x_neq (a := x.lookE at_) (b := 0) rfl rfl) ?_
  refine s_val rfl (x_assign (by conv => lhs; whnf)) ?_
  refine s_end ?_
  refine WP_cond_dec rfl (fun h1 => ?_) (fun h1 => ?_)
  · skip
    refine WP_r rfl ?_
    refine s_val rfl (x_move (by conv => lhs; whnf)) ?_
    refine s_val rfl (x_assign (by conv => lhs; whnf)) ?_
    refine s_end ?_
    refine WP_ret ?_
    refine blockQ_r ?_
    refine thenQ_r ?_
    refine retQ_1 rfl (by conv => lhs; whnf) ?_
    have hl : at_ < 0 ∨ (x.vals.length : Int) ≤ at_ := by
      unfold D.lookE at h1
      split at h1
      · assumption
      · exact absurd rfl h1
    unfold D.write D.lookE; rw [if_pos hl, if_pos hl]
    exact ⟨rfl, H⟩
  · skip
    have hl : ¬ (at_ < 0 ∨ (x.vals.length : Int) ≤ at_) := by
      intro q
      unfold D.lookE at h1
      rw [if_pos q] at h1
      exact h1 (by decide)
    refine WP_r rfl ?_
    refine s_val rfl (x_move (by conv => lhs; whnf)) ?_
    refine s_val rfl (x_lenS (by kernel_rfl) rfl) ?_
    refine s_val rfl (x_neq rfl rfl) ?_
    refine s_val rfl (x_assign (by conv => lhs; whnf)) ?_
    refine s_end ?_
    refine WP_cond_dec rfl (fun h2 => ?_) (fun h2 => ?_)
    · skip
      refine WP_r rfl ?_
      refine s_val rfl (x_assign (by conv => lhs; whnf)) ?_
      refine s_end ?_
      refine WP_ret ?_
      refine blockQ_r ?_
      refine thenQ_r ?_
      refine retQ_1 rfl (by conv => lhs; whnf) ?_
      unfold D.write; rw [if_neg hl, if_pos (by omega)]
      exact ⟨rfl, H⟩
    · skip
      refine WP_r rfl ?_
      refine s_val rfl (x_move (by conv => lhs; whnf)) ?_
      refine s_call rfl (by kernel_rfl) (take_calls H) rfl rfl ?_
      clear H
      rintro v w2 ⟨rfl, H⟩
      refine s_val rfl (x_not rfl) ?_
      refine s_val rfl (x_assign (by conv => lhs; whnf)) ?_
      refine s_end ?_
      refine WP_cond rfl (fun h3 => ?_) (fun h3 => ?_)
      · skip
        refine WP_r rfl ?_
        refine s_val rfl (x_assign (by conv => lhs; whnf)) ?_
        refine s_end ?_
        refine WP_ret ?_
        refine blockQ_r ?_
        refine thenQ_r ?_
        refine retQ_1 rfl (by conv => lhs; whnf) ?_
        have ht : x.take.1 = false := by simpa using h3
        unfold D.write; rw [if_neg hl, if_neg (by omega), if_pos ht]
        exact ⟨rfl, H⟩
      · skip
        refine WP_skip ?_
        refine blockQ_n ?_
        refine thenQ_n ?_
        have ht : x.take.1 = true := by simpa using h3
        obtain ⟨i, rfl⟩ : ∃ i : Nat, at_ = i := ⟨at_.toNat, by omega⟩
        obtain ⟨a1, cap1, fb, mb, mm, ff, fo, hok, hM, hF, hfo, H⟩ := DISK.openL H
        have hv := take_vals x
        have hil : i < x.take.2.vals.length := by rw [hv]; omega
        obtain ⟨l, hli⟩ : ∃ l, x.take.2.vals[i]? = some l := ⟨_, List.getElem?_eq_getElem hil⟩
        have hlne := (hok.each l (List.mem_of_getElem? hli)).1
        have hlc : l.length < 4611686018427387904 := hc l (by rw [← hv]; exact List.mem_of_getElem? hli)
        simp only [dlist, List.cons_append, List.nil_append] at H
        have HM := H.mapW (i := 2) rfl
        have hlk := many_look hM HM.nodup hli hlne
        refine WP_r rfl ?_
        refine s_val rfl (x_move (by conv => lhs; whnf)) ?_
        refine s_val rfl (x_nilCheck rfl) ?_
        refine s_val rfl (x_field (off := 2) (by kernel_rfl) rfl) ?_
        refine s_val rfl (x_load (by kernel_rfl) rfl (by first | exact H.cell (i := 0) rfl rfl | exact hI.1 | exact hI.2.1)) ?_
        refine s_val rfl (x_move (by conv => lhs; whnf)) ?_
        refine s_val rfl (x_lookupV (show Tryd.prog.underlying 81 = some (.map 3 3) by kernel_rfl) keyT_many (show ZeroT Tryd.prog 3 (.int .i64 0) by unfold ZeroT; kernel_rfl) hlk rfl (k := (i : Int)) rfl HM) ?_
        refine s_val rfl (x_addi rfl rfl (by omega)) ?_
        refine s_mapUpdate rfl (show Tryd.prog.underlying 81 = some (.map 3 3) by kernel_rfl) keyT_many rfl (k := (i : Int)) rfl (by conv => lhs; whnf) H (i := 2) rfl ?_
        clear H HM
        intro w3 H
        simp only [List.set_cons_zero, List.set_cons_succ] at H
        refine s_end ?_
        have HM := H.mapW (i := 2) rfl
        have c1 := H.cell (i := 0) (off := 1) rfl rfl
        have c2 := H.cell (i := 0) (off := 2) rfl rfl
        have hlk2 : (lk (pt mm (i : Int) (.int .i64 (((l.length - 1 : Nat) : Int) + 1))) (i : Int)).getD (.int .i64 0) = .int .i64 (((l.length - 1 : Nat) : Int) + 1) := by
          rw [lk_mem HM.nodup ((pt_mem _ _ _ _).2 (.inl ⟨rfl, rfl⟩))]; rfl
        refine WP_rd (fun w => w.cell? ⟨d, 1, none⟩ = some (.map (some fb)) ∧ w.cell? ⟨d, 2, none⟩ = some (.map (some mb)) ∧ MapAt w intF mb (pt mm (i : Int) (.int .i64 (((l.length - 1 : Nat) : Int) + 1)))) (.float 0 (.float 1 (.float 2 (.float 3 (.float 4 (.float 5 (.float 6 (.float 7 (.float 8 (.float 9 (.float 10 (.float 11 (.float 12 (.fork [(13, .fork [(14, .done)])])))))))))))))) (by kernel_rfl) (by kernel_rfl) ⟨c1, c2, HM⟩ ?_
        replace H := H.heapEq (w' := { w3 with drawn := w3.drawn + 1 }) rfl
        have HRb := hR _ ((H.drop 0).drop 0 |>.drop 0 |>.drop 0 |>.drop 0)
        refine r_val rfl rfl (fun w hI => x_move (by conv => lhs; whnf)) ?_
        refine r_val rfl rfl (fun w hI => x_nilCheck rfl) ?_
        refine r_val rfl rfl (fun w hI => x_field (off := 1) (by kernel_rfl) rfl) ?_
        refine r_val rfl rfl (fun w hI => x_load (by kernel_rfl) rfl (by first | exact H.cell (i := 0) rfl rfl | exact hI.1 | exact hI.2.1)) ?_
        refine r_val rfl rfl (fun w hI => x_move (by conv => lhs; whnf)) ?_
        refine r_val rfl rfl (fun w hI => x_move (by conv => lhs; whnf)) ?_
        refine r_val rfl rfl (fun w hI => x_nilCheck rfl) ?_
        refine r_val rfl rfl (fun w hI => x_field (off := 2) (by kernel_rfl) rfl) ?_
        refine r_val rfl rfl (fun w hI => x_load (by kernel_rfl) rfl (by first | exact H.cell (i := 0) rfl rfl | exact hI.1 | exact hI.2.1)) ?_
        refine r_val rfl rfl (fun w hI => x_move (by conv => lhs; whnf)) ?_
        refine r_val rfl rfl (fun w hI => x_lookupV (show Tryd.prog.underlying 81 = some (.map 3 3) by kernel_rfl) keyT_many (show ZeroT Tryd.prog 3 (.int .i64 0) by unfold ZeroT; kernel_rfl) hlk2 rfl (k := (i : Int)) rfl hI.2.2) ?_
        refine r_val rfl rfl (fun w hI => x_build (show StT Tryd.prog 102 #[.int .i64 0, .int .i64 0] #[(0, 1), (1, 1)] from ⟨by kernel_rfl, by kernel_rfl⟩) rfl (show _ = some [_, _] from rfl)) ?_
        refine r_val rfl rfl (fun w hI => x_move (by conv => lhs; whnf)) ?_
        refine r_one rfl ?_
        refine s_call rfl (by kernel_rfl) (CloneB_calls HRb (by omega)) rfl rfl ?_
        rintro v w4 ⟨a3, cap3, rfl, H3⟩
        replace H := H.more H3
        simp only [List.cons_append, List.nil_append] at H
        refine s_end ?_
        refine ⟨⟨H.cell (i := 0) (off := 1) rfl rfl, H.cell (i := 0) (off := 2) rfl rfl, H.mapW (i := 2) rfl⟩, ?_⟩
        refine r_one rfl ?_
        refine s_mapUpdate rfl (show Tryd.prog.underlying 80 = some (.map 102 44) by kernel_rfl) keyT_spot rfl (k := ((i : Int), ((l.length - 1 : Nat) : Int) + 1)) rfl (by conv => lhs; whnf) H (i := 3) rfl ?_
        have HF := H.mapW (i := 3) rfl
        clear H
        intro w5 H
        simp only [List.set_cons_zero, List.set_cons_succ] at H
        refine s_end ?_
        refine ⟨⟨H.cell (i := 0) (off := 1) rfl rfl, H.cell (i := 0) (off := 2) rfl rfl, H.mapW (i := 2) rfl⟩, ?_⟩
        refine r_done ?_
        refine WP_r rfl ?_
        refine s_val rfl (x_assign (by conv => lhs; whnf)) ?_
        refine s_end ?_
        refine WP_ret ?_
        refine retQ_1 rfl (by conv => lhs; whnf) ?_
        have hbl : bs.length = 256 := by omega
        have hcl : (x.take.2.vals.getD i []).length < 4611686018427387904 := by simpa [List.getD_eq_getElem?_getD, hli] using hlc
        unfold D.write; rw [if_neg hl, if_neg (by omega), if_neg (by rw [ht]; decide)]
        refine ⟨rfl, ?_⟩
        have e0 : ((i : Int)).toNat = i := by omega
        rw [e0]
        have hpt : pt (ff.map Fe.pair) ((i : Int), ((l.length - 1 : Nat) : Int) + 1) (.slice a3 n cap3) = (ff ++ [(⟨i, ((l.length - 1 : Nat) : Int) + 1, a3, cap3, bs⟩ : Fe)]).map Fe.pair := by
          unfold pt
          rw [if_neg, List.map_append]
          · rw [hn, hbl]; rfl
          · rw [lk_none]
            · simp
            · intro v hv
              obtain ⟨e, he, hev⟩ := List.mem_map.1 hv
              obtain ⟨i', j, l', h5, h6, h7, h8, h9⟩ := (hF _ _ e.bs).1 ⟨e, he, (congrArg Prod.fst hev), rfl⟩
              have : i = i' := by omega
              subst this
              rw [hli] at h5; injection h5 with h5; subst h5
              have := (List.getElem?_eq_some_iff.1 h7).1
              omega
        rw [hpt] at H
        have H6 : Sat w0 _ ([_, _, _, _, stars (fo.map Fe.own), F] ++ [slo 5 1 a3 n cap3 (bys bs)]) := H
        have H7 := H6.absorb (i := 4) rfl
        refine DISK.closeL (put_ok hok hbl hcl) (put_many hM hli hlne bs) (put_fresh hF hli hlne bs a3 cap3) (fun e he => ?_) (cap := cap1) (fo := fo ++ [⟨i, ((l.length - 1 : Nat) : Int) + 1, a3, cap3, bs⟩]) (a := a1) (fb := fb) (mb := mb) ?_
        · rcases List.mem_append.1 he with he | he
          · rcases hfo e he with h | h
            · exact .inl (List.mem_append_left _ h)
            · exact .inr h
          · exact .inl (List.mem_append_right _ he)
        unfold dlist
        rw [put_sure hok, List.map_append (f := Fe.own)]
        have e1 : (x.take.2.put i bs).vals.length = x.take.2.vals.length := by show (x.take.2.vals.set i _).length = _; simp
        rw [e1]
        have e2 : n = 256 := by omega
        subst e2
        exact H7
end Go.Sl
/- The disk: settling, syncing, crashing. -/
namespace Go.Sl
open Go.Proofs

theorem Sat.focus {w0 w : World} {L : List HP} {i : Nat} {p : HP} (H : Sat w0 w L) (hi : L[i]? = some p) : Sat w0 w [p, stars (L.eraseIdx i)] := by
  have h1 : Sat w0 w (L.eraseIdx i ++ [p]) := (H.pick hi).perm (List.perm_append_comm (l₁ := [p]) (l₂ := L.eraseIdx i))
  exact h1.part.perm (List.Perm.swap _ _ _)
theorem Sat.unfocus {w0 w : World} {L : List HP} {i : Nat} {p q : HP} (H : Sat w0 w [q, stars (L.eraseIdx i)]) (hi : L[i]? = some p) : Sat w0 w (L.set i q) := by
  have h1 : Sat w0 w (L.eraseIdx i ++ [q]) := (H.perm (List.Perm.swap _ _ _)).join
  exact (h1.perm (List.perm_append_comm (l₁ := L.eraseIdx i) (l₂ := [q]))).perm (perm_set (lt_of_pick hi) _)
theorem Sat.rdOwn {w0 w : World} {L : List HP} {i : Nat} {ff : List Fe} (H : Sat w0 w L) (hi : L[i]? = some (stars (ff.map Fe.own))) {e : Fe} (he : e ∈ ff) : Rd w e.a 256 e.cap 1 (bys e.bs) := by
  obtain ⟨_, h1, h2, d, s1, s2, hp, _⟩ := H.pick hi
  obtain ⟨g2, sg2, hg2⟩ := stars_mem (p := e.own) (List.mem_map.2 ⟨e, he, rfl⟩) hp
  exact slo_rd ((sg2.trans s1).trans (hpOf_sub _ _)) hg2

/-! ### What settling does -/
section
variable {σ : Type}
/-- Each sector that was written takes one of its values, the sectors rising; 'step' tells which, and what it knows then. -/
def settleL (step : σ → Nat → Nat × σ) : List (List Sect) → σ → List (List Sect) × σ
  | [], s => ([], s)
  | l :: ls, s => if 1 < l.length then ([l.getD (step s (l.length - 1)).1 []] :: (settleL step ls (step s (l.length - 1)).2).1, (settleL step ls (step s (l.length - 1)).2).2)
    else (l :: (settleL step ls s).1, (settleL step ls s).2)
/-- The same by the numbers of the sectors. -/
def settleK (step : σ → Nat → Nat × σ) (vals : List (List Sect)) (off : Nat) : List Nat → List Sect × σ → List Sect × σ
  | [], r => r
  | k :: ks, r => settleK step vals off ks (r.1.set (k - off) ((vals.getD (k - off) []).getD (step r.2 ((vals.getD (k - off) []).length - 1)).1 []), (step r.2 ((vals.getD (k - off) []).length - 1)).2)
theorem settleK_snoc (step : σ → Nat → Nat × σ) (vals : List (List Sect)) (off : Nat) : ∀ (ks : List Nat) (k : Nat) (r : List Sect × σ),
    settleK step vals off (ks ++ [k]) r = settleK step vals off [k] (settleK step vals off ks r) := by
  intro ks
  induction ks with
  | nil => intro k r; rfl
  | cons q ks ih => intro k r; exact ih k _
theorem settleK_shift (step : σ → Nat → Nat × σ) (l : List Sect) (ls : List (List Sect)) (off : Nat) (h : Sect) : ∀ (ks : List Nat) (S : List Sect) (s : σ), (∀ k ∈ ks, off < k) →
    settleK step (l :: ls) off ks (h :: S, s) = (h :: (settleK step ls (off + 1) ks (S, s)).1, (settleK step ls (off + 1) ks (S, s)).2) := by
  intro ks
  induction ks with
  | nil => intro S s _; rfl
  | cons k ks ih =>
    intro S s hk
    have h1 := hk k (List.mem_cons_self ..)
    have e : k - off = (k - (off + 1)) + 1 := by omega
    simp only [settleK]
    rw [e]
    simp only [List.set_cons_succ, List.getD_cons_succ]
    exact ih _ _ fun q hq => hk q (List.mem_cons_of_mem _ hq)
theorem settleK_eq (step : σ → Nat → Nat × σ) : ∀ (vals : List (List Sect)) (off : Nat) (ks : List Nat) (s : σ), ks.Pairwise (· < ·) →
    (∀ k, k ∈ ks ↔ ∃ (i : Nat) (l : List Sect), vals[i]? = some l ∧ 1 < l.length ∧ k = off + i) → (∀ l ∈ vals, l ≠ []) →
    settleK step vals off ks (vals.map (fun l => l.headD []), s) = ((settleL step vals s).1.map (fun l => l.headD []), (settleL step vals s).2) := by
  intro vals
  induction vals with
  | nil =>
    intro off ks s _ hk _
    cases ks with
    | nil => rfl
    | cons k ks => obtain ⟨i, l, h, _⟩ := (hk k).1 (List.mem_cons_self ..); simp at h
  | cons l ls ih =>
    intro off ks s hp hk hne
    have hls : ∀ l ∈ ls, l ≠ [] := fun v hv => hne v (List.mem_cons_of_mem _ hv)
    have hrest : ∀ k, (∃ (i : Nat) (v : List Sect), ls[i]? = some v ∧ 1 < v.length ∧ k = (off + 1) + i) ↔ ∃ (i : Nat) (v : List Sect), (l :: ls)[i + 1]? = some v ∧ 1 < v.length ∧ k = off + (i + 1) := fun k => by
      constructor
      · rintro ⟨i, v, h1, h2, h3⟩; exact ⟨i, v, by simpa using h1, h2, by omega⟩
      · rintro ⟨i, v, h1, h2, h3⟩; exact ⟨i, v, by simpa using h1, h2, by omega⟩
    by_cases hl : 1 < l.length
    · have h0 : off ∈ ks := (hk off).2 ⟨0, l, rfl, hl, rfl⟩
      cases ks with
      | nil => cases h0
      | cons k ks =>
        have hall : ∀ q ∈ ks, k < q := (List.pairwise_cons.1 hp).1
        have hko : k = off := by
          rcases List.mem_cons.1 h0 with e | e
          · exact e.symm
          · have h1 := hall off e
            obtain ⟨i, v, _, _, h4⟩ := (hk k).1 (List.mem_cons_self ..)
            omega
        subst hko
        have hks : ∀ q, q ∈ ks ↔ ∃ (i : Nat) (v : List Sect), ls[i]? = some v ∧ 1 < v.length ∧ q = (k + 1) + i := fun q => by
          rw [hrest]
          constructor
          · intro hq
            have h1 := hall q hq
            obtain ⟨i, v, h2, h3, h4⟩ := (hk q).1 (List.mem_cons_of_mem _ hq)
            cases i with
            | zero => omega
            | succ i => exact ⟨i, v, h2, h3, h4⟩
          · rintro ⟨i, v, h2, h3, h4⟩
            rcases List.mem_cons.1 ((hk q).2 ⟨i + 1, v, h2, h3, h4⟩) with e | e
            · omega
            · exact e
        simp only [settleK, Nat.sub_self, List.map_cons, List.set_cons_zero, List.getD_cons_zero]
        rw [settleK_shift step l ls k _ ks _ _ hall, ih (k + 1) ks _ (List.pairwise_cons.1 hp).2 hks hls]
        simp only [settleL, if_pos hl, List.map_cons, List.headD_cons]
    · have hks : ∀ q, q ∈ ks ↔ ∃ (i : Nat) (v : List Sect), ls[i]? = some v ∧ 1 < v.length ∧ q = (off + 1) + i := fun q => by
        rw [hrest, hk q]
        constructor
        · rintro ⟨i, v, h2, h3, h4⟩
          cases i with
          | zero => simp at h2; subst h2; exact absurd h3 hl
          | succ i => exact ⟨i, v, h2, h3, h4⟩
        · rintro ⟨i, v, h2, h3, h4⟩; exact ⟨i + 1, v, h2, h3, h4⟩
      have hall : ∀ q ∈ ks, off < q := fun q hq => by obtain ⟨i, v, _, _, h4⟩ := (hks q).1 hq; omega
      rw [List.map_cons, settleK_shift step l ls off _ ks _ _ hall, ih (off + 1) ks s hp hks hls]
      simp only [settleL, if_neg hl, List.map_cons]
theorem settleK_len (step : σ → Nat → Nat × σ) (vals : List (List Sect)) (off : Nat) : ∀ (ks : List Nat) (r : List Sect × σ), (settleK step vals off ks r).1.length = r.1.length := by
  intro ks
  induction ks with
  | nil => intro r; rfl
  | cons k ks ih => intro r; rw [settleK, ih]; simp
theorem settleK_other (step : σ → Nat → Nat × σ) (vals : List (List Sect)) : ∀ (ks : List Nat) (r : List Sect × σ) (j : Nat), j ∉ ks → (settleK step vals 0 ks r).1[j]? = r.1[j]? := by
  intro ks
  induction ks with
  | nil => intro r j _; rfl
  | cons k ks ih =>
    intro r j hj
    rw [settleK, ih _ _ fun h => hj (List.mem_cons_of_mem _ h)]
    have : k - 0 ≠ j := fun e => hj (by rw [← e]; exact List.mem_cons_self ..)
    simp only [List.getElem?_set_ne this]
theorem settleK_sect (step : σ → Nat → Nat × σ) (vals : List (List Sect)) (hs : ∀ s m, (step s m).1 ≤ m) (hv : ∀ l ∈ vals, ∀ b ∈ l, b.length = 256) :
    ∀ (ks : List Nat) (r : List Sect × σ), (∀ k ∈ ks, ∃ l, vals[k]? = some l ∧ l ≠ []) → (∀ b ∈ r.1, b.length = 256) → ∀ b ∈ (settleK step vals 0 ks r).1, b.length = 256 := by
  intro ks
  induction ks with
  | nil => intro r _ h; exact h
  | cons k ks ih =>
    intro r hk h
    rw [settleK]
    refine ih _ (fun q hq => hk q (List.mem_cons_of_mem _ hq)) fun b hb => ?_
    rcases List.mem_or_eq_of_mem_set hb with h1 | h1
    · exact h b h1
    · obtain ⟨l, hl, hne⟩ := hk k (List.mem_cons_self ..)
      have hle := hs r.2 (l.length - 1)
      have hpos : 0 < l.length := List.length_pos_iff.2 hne
      have e : vals.getD (k - 0) [] = l := by simp [List.getD_eq_getElem?_getD, hl]
      rw [h1, e]
      have hlt : (step r.2 (l.length - 1)).1 < l.length := by omega
      rw [List.getD_eq_getElem?_getD, List.getElem?_eq_getElem hlt, Option.getD_some]
      exact hv l (List.mem_of_getElem? hl) _ (List.getElem_mem hlt)
theorem settleL_length (step : σ → Nat → Nat × σ) : ∀ (vals : List (List Sect)) (s : σ), (settleL step vals s).1.length = vals.length := by
  intro vals
  induction vals with
  | nil => intro s; rfl
  | cons l ls ih =>
    intro s
    unfold settleL
    split
    · simp [ih]
    · simp [ih]
theorem settleL_mem (step : σ → Nat → Nat × σ) (hs : ∀ s m, (step s m).1 ≤ m) : ∀ (vals : List (List Sect)) (s : σ), (∀ l ∈ vals, l ≠ [] ∧ ∀ b ∈ l, b.length = 256) → ∀ l ∈ (settleL step vals s).1, l.length = 1 ∧ ∀ b ∈ l, b.length = 256 := by
  intro vals
  induction vals with
  | nil => intro s _ l hl; cases hl
  | cons v ls ih =>
    intro s h l hl
    have hv := h v (List.mem_cons_self ..)
    unfold settleL at hl
    split at hl
    · rcases List.mem_cons.1 hl with e | e
      · subst e
        refine ⟨rfl, fun b hb => ?_⟩
        simp only [List.mem_singleton] at hb
        subst hb
        have := hs s (v.length - 1)
        have hlt : (step s (v.length - 1)).1 < v.length := by omega
        rw [List.getD_eq_getElem?_getD, List.getElem?_eq_getElem hlt, Option.getD_some]
        exact hv.2 _ (List.getElem_mem hlt)
      · exact ih _ (fun u hu => h u (List.mem_cons_of_mem _ hu)) l e
    · rename_i hle
      rcases List.mem_cons.1 hl with e | e
      · subst e
        have : l.length ≠ 0 := fun q => hv.1 (List.length_eq_zero_iff.1 q)
        exact ⟨by omega, hv.2⟩
      · exact ih _ (fun u hu => h u (List.mem_cons_of_mem _ hu)) l e
end
def D.settle {σ : Type} (step : σ → Nat → Nat × σ) (x : D) (s : σ) : D := { x with vals := (settleL step x.vals s).1 }
theorem settle_ok {σ : Type} {step : σ → Nat → Nat × σ} (hs : ∀ s m, (step s m).1 ≤ m) {x : D} (h : x.Ok) (s : σ) : (x.settle step s).Ok := by
  have hm := settleL_mem step hs x.vals s fun l hl => ⟨(h.each l hl).1, h.sect l hl⟩
  have hl : (x.settle step s).vals.length = x.vals.length := settleL_length step x.vals s
  refine ⟨by rw [hl]; exact h.pos, by rw [hl]; exact h.big, fun l hl => ?_, fun l hl => (hm l hl).2, h.5, h.6⟩
  have := (hm l hl).1
  exact ⟨(fun e => by rw [e] at this; cases this), by omega⟩
theorem settle_one {σ : Type} {step : σ → Nat → Nat × σ} (hs : ∀ s m, (step s m).1 ≤ m) {x : D} (h : x.Ok) (s : σ) : ∀ l ∈ (x.settle step s).vals, l.length = 1 :=
  fun l hl => (settleL_mem step hs x.vals s (fun l hl => ⟨(h.each l hl).1, h.sect l hl⟩) l hl).1
theorem many_none {x : D} (h : ∀ l ∈ x.vals, l.length = 1) : Many x [] := fun k v => by
  constructor
  · intro h; cases h
  · rintro ⟨i, l, h1, h2, _⟩
    have := h l (List.mem_of_getElem? h1)
    omega
theorem fresh_none {x : D} (h : ∀ l ∈ x.vals, l.length = 1) : Fresh x [] := fun k1 k2 bs => by
  constructor
  · rintro ⟨e, he, _⟩; cases he
  · rintro ⟨i, j, l, h1, h2, h3, _⟩
    have h4 := h l (List.mem_of_getElem? h1)
    have := (List.getElem?_eq_some_iff.1 h3).1
    omega
theorem pasted_chunk (k : Nat) : ∀ (S : List Sect), (∀ v ∈ S, v.length = k) → ∀ (i : Nat) (b : Sect), i < S.length → b.length = k → pasted (bys S.flatten) (i * k) (bys b) = bys (S.set i b).flatten := by
  intro S
  induction S with
  | nil => intro _ i b hi; simp at hi
  | cons v S ih =>
    intro hS i b hi hb
    have hv := hS v (List.mem_cons_self ..)
    cases i with
    | zero =>
      unfold pasted
      rw [Nat.zero_mul, List.take_zero, List.nil_append, Nat.zero_add, bys_length, hb, List.set_cons_zero, List.flatten_cons, List.flatten_cons]
      simp only [bys, List.map_append]
      rw [← hv, show v.length = (v.map by1).length by simp, List.drop_left]
    | succ i =>
      have h1 := ih (fun u hu => hS u (List.mem_cons_of_mem _ hu)) i b (by simpa using hi) hb
      rw [List.set_cons_succ, List.flatten_cons, List.flatten_cons]
      simp only [bys, List.map_append] at h1 ⊢
      rw [← h1]
      unfold pasted
      have hvl : (v.map by1).length = k := by simpa using hv
      rw [Nat.succ_mul, Nat.add_comm (i * k) k, ← hvl, List.take_length_add_append, Nat.add_assoc, List.drop_length_add_append]
      simp [List.append_assoc]
end Go.Sl
/- The keys of a map of whole numbers, sorted: out of the kit's own contracts. -/
namespace Go.Sl
open Go.Proofs

theorem keys_calls {w : World} {mb : Nat} : Calls Tryd.prog 65 #[.map (some mb)] w (Ret fun v w' => v = .func (.func 84) #[] #[.pointer (some ⟨w.heap.size, 0, none⟩)] ∧ w' = w.alloc (.cells #[.map (some mb)] 81)) := by
  refine Calls.mono (callsIn_wide.1 (AnyZI.keys_in Tryd.keysA Fence.wide 5 trivial rfl (some mb) w)) ?_
  rintro e w' ⟨rfl, rfl⟩
  exact ⟨rfl, rfl⟩
theorem sortsA (m : Nat) : AnyZI.SortsIn Tryd.prog Tryd.sortedA_ren Fence.wide m :=
  ⟨fun blk off cap ss W hH hblk hsz => callsIn_wide.2 (AnyM.slices_Sort_int Tryd.sortA blk off cap ss W hH hblk hsz),
   fun p cap W => callsIn_wide.2 (AnyM.slices_Sort_int_none Tryd.sortA p cap W)⟩
theorem sorted_calls {w : World} {mb p : Nat} {m : List (Int × Value)} (hp : w.cell? ⟨p, 0, none⟩ = some (.map (some mb))) (hpl : p < w.heap.size) (h : MapAt w intF mb m) (hwf : ∀ p ∈ m, (Lit.int .i64 p.1).wf = true) (hl : m.length ≤ 1048576) :
    Calls Tryd.prog 64 #[.func (.func 84) #[] #[.pointer (some ⟨p, 0, none⟩)]] w (Ret fun v w' => ∃ (a : Option Addr) (cap : Nat) (ks : List Int), v = .slice a ks.length cap ∧ Sat w w' [slo 3 1 a ks.length cap (ks.map intF)] ∧ ks.Pairwise (· < ·) ∧ ∀ k, k ∈ ks ↔ k ∈ m.map (·.1)) := by
  obtain ⟨D0, hown, hperm, hsize⟩ := owns_of_mapAt (P := Tryd.prog) (K := 3) Tryd.underlying3 h hwf (by unfold maxLen; omega)
  have hseq : SeqGives Fence.wide 2 Tryd.prog 84 #[.pointer (some ⟨p, 0, none⟩)] encZ (fun ss => ss.Perm (intKeys D0)) (Maps.size D0) w :=
    AnyZI.keys_gives (ρ := Tryd.keysA_ren) { Tryd.keysA with } Fence.wide _ trivial rfl (by omega) p mb _ D0 _ hpl hp hown
  have cS := AnyZI.sorted_in Tryd.sortedA Fence.wide 5 trivial trivial trivial trivial rfl (by omega) (sortsA _) (enters_of Tryd.func83 (by kernel_rfl) rfl) 84 #[.pointer (some ⟨p, 0, none⟩)] trivial (enters_of Tryd.func84 (by kernel_rfl) rfl)
    (fun ss => ss.Perm (intKeys D0)) (Maps.size D0) (by rw [hsize]; unfold maxLen; omega) (by rw [hsize]; omega) w hseq
  refine Calls.mono (callsIn_wide.1 cS) ?_
  rintro e w' ⟨v, ss, rfl, hS, hrow, _, hb⟩
  have hnd : (m.map (·.1)).Nodup := by obtain ⟨es, clock, _, hm⟩ := h; exact hm.nodup
  obtain ⟨h1, h2⟩ := perm_pair (hS.trans hperm) hnd
  obtain ⟨a, cap, hv, hs⟩ := slo_of_owns hrow hb
  refine ⟨a, cap, _, ?_, ?_, h1, h2⟩
  · rw [hv, List.length_mergeSort]
  · rw [List.length_mergeSort]; exact hs
end Go.Sl
/- The disk: settle. -/
namespace Go.Sl
open Go.Proofs

theorem many_len {x : D} {mm : List (Int × Value)} (hM : Many x mm) (hn : (mm.map (·.1)).Nodup) : mm.length ≤ x.vals.length := by
  have h1 : ∀ p ∈ mm, ∃ i : Nat, i < x.vals.length ∧ p.1 = i := fun p hp => by
    obtain ⟨i, l, h1, _, h3, _⟩ := (hM p.1 p.2).1 hp
    exact ⟨i, (List.getElem?_eq_some_iff.1 h1).1, h3⟩
  have h2 := nodup_le x.vals.length (mm.map fun p => p.1.toNat) (by
    rw [List.nodup_iff_pairwise_ne, List.pairwise_map] at hn ⊢
    refine hn.imp_of_mem fun {p q} hp hq hne e => hne ?_
    obtain ⟨i, _, hi⟩ := h1 p hp
    obtain ⟨j, _, hj⟩ := h1 q hq
    omega) fun k hk => by
      obtain ⟨p, hp, e⟩ := List.mem_map.1 hk
      obtain ⟨i, h, hi⟩ := h1 p hp
      omega
  simpa using h2
theorem many_wf {x : D} (h : x.Ok) {mm : List (Int × Value)} (hM : Many x mm) : ∀ p ∈ mm, (Lit.int .i64 p.1).wf = true := fun p hp => by
  obtain ⟨i, l, h1, _, h3, _⟩ := (hM p.1 p.2).1 hp
  have h2 := (List.getElem?_eq_some_iff.1 h1).1
  have h4 := h.big
  rw [h3]
  simp only [Lit.wf, decide_eq_true_eq, Bool.and_eq_true]
  have h5 : IntKind.min .i64 = -9223372036854775808 := by decide
  have h6 : IntKind.max .i64 = 9223372036854775807 := by decide
  rw [h5, h6]
  omega
theorem keysNat {x : D} {mm : List (Int × Value)} (hM : Many x mm) {ks : List Int} (hp : ks.Pairwise (· < ·)) (hk : ∀ k, k ∈ ks ↔ k ∈ mm.map (·.1)) :
    ∃ K : List Nat, ks = K.map (fun n : Nat => (n : Int)) ∧ K.Pairwise (· < ·) ∧ ∀ k, k ∈ K ↔ ∃ (i : Nat) (l : List Sect), x.vals[i]? = some l ∧ 1 < l.length ∧ k = 0 + i := by
  have h1 : ∀ k ∈ ks, ∃ (i : Nat) (l : List Sect), x.vals[i]? = some l ∧ 1 < l.length ∧ k = i := fun k h => by
    obtain ⟨p, hp, rfl⟩ := List.mem_map.1 ((hk k).1 h)
    obtain ⟨i, l, h1, h2, h3, _⟩ := (hM p.1 p.2).1 hp
    exact ⟨i, l, h1, h2, h3⟩
  have he : ks = (ks.map Int.toNat).map (fun n : Nat => (n : Int)) := by
    rw [List.map_map]
    conv => lhs; rw [← List.map_id ks]
    refine List.map_congr_left fun k h => ?_
    obtain ⟨i, _, _, _, rfl⟩ := h1 k h
    simp
  refine ⟨ks.map Int.toNat, he, ?_, fun k => ?_⟩
  · rw [List.pairwise_map]
    refine hp.imp_of_mem fun {a b} ha hb hlt => ?_
    obtain ⟨i, _, _, _, rfl⟩ := h1 a ha
    obtain ⟨j, _, _, _, rfl⟩ := h1 b hb
    omega
  · rw [List.mem_map]
    constructor
    · rintro ⟨a, ha, rfl⟩
      obtain ⟨i, l, h2, h3, rfl⟩ := h1 a ha
      exact ⟨i, l, h2, h3, by simp⟩
    · rintro ⟨i, l, h2, h3, rfl⟩
      refine ⟨i, (hk _).2 (List.mem_map.2 ⟨((i : Int), .int .i64 ((l.length - 1 : Nat) : Int)), (hM _ _).2 ⟨i, l, h2, h3, rfl, rfl⟩, rfl⟩), by simp⟩
theorem take_snoc {α : Type} (l : List α) (k : Nat) {a : α} (h : l[k]? = some a) : l.take (k + 1) = l.take k ++ [a] := by
  rw [List.take_add_one, h]; rfl
theorem settleK_one {σ : Type} (step : σ → Nat → Nat × σ) (vals : List (List Sect)) (i : Nat) (r : List Sect × σ) {l : List Sect} (hl : vals[i]? = some l) :
    settleK step vals 0 [i] r = (r.1.set i (l.getD (step r.2 (l.length - 1)).1 []), (step r.2 (l.length - 1)).2) := by
  have e : vals.getD i [] = l := by simp [List.getD_eq_getElem?_getD, hl]
  simp only [settleK, Nat.sub_zero, e]
theorem chunkS (k : Nat) : ∀ (S : List Sect), (∀ v ∈ S, v.length = k) → ∀ (i : Nat) (v : Sect), S[i]? = some v → (S.flatten.drop (i * k)).take k = v := by
  intro S
  induction S with
  | nil => intro _ i v h; simp at h
  | cons u S ih =>
    intro hS i v h
    have hu := hS u (List.mem_cons_self ..)
    cases i with
    | zero =>
      simp at h; subst h
      rw [Nat.zero_mul, List.drop_zero, List.flatten_cons, ← hu, List.take_left]
    | succ i =>
      rw [List.flatten_cons, Nat.succ_mul, Nat.add_comm, ← hu, List.drop_length_add_append, hu]
      exact ih (fun v hv => hS v (List.mem_cons_of_mem _ hv)) i v (by simpa using h)
theorem flatLen (k : Nat) : ∀ (S : List Sect), (∀ v ∈ S, v.length = k) → S.flatten.length = k * S.length := by
  intro S
  induction S with
  | nil => intro _; simp
  | cons u S ih =>
    intro hS
    rw [List.flatten_cons, List.length_append, ih (fun v hv => hS v (List.mem_cons_of_mem _ hv)), hS u (List.mem_cons_self ..), List.length_cons, Nat.mul_succ]; omega

theorem Sat.back {w0 w : World} {A B C : List HP} (H : Sat w0 w (A ++ (B ++ C))) : Sat w0 w (A ++ (C ++ B)) := H.perm (List.Perm.append_left _ List.perm_append_comm)
theorem Sat.front2 {w0 w : World} {A : List HP} {p q : HP} (H : Sat w0 w (A ++ [p, q])) : Sat w0 w [p, q, stars A] := H.part.perm (List.perm_append_comm (l₁ := [stars A]) (l₂ := [p, q]))
theorem Sat.unfront2 {w0 w : World} {A : List HP} {p q : HP} (H : Sat w0 w [p, q, stars A]) : Sat w0 w (A ++ [p, q]) := (H.perm (List.perm_append_comm (l₁ := [p, q]) (l₂ := [stars A]))).join
/-- One of the values of a sector that is still to be settled. -/
theorem value_any {w w0 : World} {d : Nat} {x : D} {a : Option Addr} {cap fb mb : Nat} {ff : List Fe} {mm : List (Int × Value)} {S : List Sect} {M : List HP} {fo sh : List Fe} {i j : Nat} {l : List Sect} {bs : Sect} (hok : x.Ok) (hF : Fresh x ff) (hfo : ∀ e ∈ ff, e ∈ fo ∨ e ∈ sh) (hsh : ROs w sh)
    (H : Sat w0 w (blk d (.cells #[.slice a (256 * x.vals.length) cap, .map (some fb), .map (some mb), .int .i64 x.left, .bool x.off, .int .i64 x.taken] 83 (0, 0)) :: slo 5 1 a (256 * x.vals.length) cap (bys S.flatten) :: mapP intF mb mm ::
      mapP pairF fb (ff.map Fe.pair) :: stars (fo.map Fe.own) :: M)) (hS : ∀ v ∈ S, v.length = 256) (hSi : S[i]? = some (l.headD [])) (hi : x.vals[i]? = some l) (hj : l[j]? = some bs) :
    Calls Tryd.prog 46 #[dp d, .int .i64 i, .int .i64 j] w (Ret fun v w' => ∃ a cap, v = .slice a 256 cap ∧ Rd w' a 256 cap 1 (bys bs) ∧ core w' = core w) := by
  have hil : i < x.vals.length := (List.getElem?_eq_some_iff.1 hi).1
  rcases Nat.eq_zero_or_pos j with q | q
  · subst q
    have hl : l.headD [] = bs := by cases l with | nil => simp at hj | cons s l => simpa using hj
    have := value0_calls (H.cell (i := 0) (off := 0) rfl rfl) (H.rd (i := 1) rfl) hil hok.big
    rw [chunkS 256 S hS i _ hSi, hl] at this
    exact this
  · obtain ⟨e, he, hk, hbs⟩ := (hF i j bs).2 ⟨i, j, l, hi, q, hj, rfl, rfl⟩
    have := valueN_calls (H.cell (i := 0) (off := 1) rfl rfl) (H.mapW (i := 3) rfl) he hk q ((hfo e he).elim (fun he => H.rdOwn (i := 4) rfl he) (hsh e))
    rw [hbs] at this
    exact this
theorem settle_calls {σ : Type} {G : σ → HP} {step : σ → Nat → Nat × σ} {g : FuncId} {caps : Array Value} (hs : ∀ s m, (step s m).1 ≤ m) (hb : bodyB Tryd.prog g = true) {w0 : World} {F : HP} {sh : List Fe} (hsh : RO w0 F sh) {C : Nat → σ → Prop} (hC : ∀ k s m, C k s → C (k + 1) (step s m).2)
    (hG : ∀ (w : World) (L : HP) (k : Nat) (s : σ) (i m : Nat), C k s → k < 4096 → m ≤ 4611686018427387904 → Sat w0 w [G s, F, L] → Calls Tryd.prog g (([.int .i64 i, .int .i64 m] : List Value) ++ caps.toList).toArray w (Ret fun v w' => v = .int .i64 ((step s m).1 : Nat) ∧ Sat w0 w' [G (step s m).2, F, L]))
    {w : World} {d : Nat} {x : D} {s : σ} (hC0 : C 0 s) (H : Sat w0 w [DISK d x sh, G s, F]) :
    Calls Tryd.prog 48 #[dp d, .func (.func g) #[] caps] w (Ret fun v w' => v = .tuple #[] ∧ Sat w0 w' [DISK d (x.settle step s) sh, G (settleL step x.vals s).2, F]) := by
  obtain ⟨a, cap, fb, mb, mm, ff, fo, hok, hM, hF, hfo, H⟩ := DISK.openL H
  simp only [dlist, List.cons_append, List.nil_append] at H
  have hbig := hok.big
  have hv : ∀ l ∈ x.vals, ∀ b ∈ l, b.length = 256 := hok.sect
  have hne : ∀ l ∈ x.vals, l ≠ [] := fun l h => (hok.each l h).1
  have hS0 : ∀ b ∈ x.vals.map (fun l => l.headD []), b.length = 256 := fun b hb => by
    obtain ⟨l, hl, rfl⟩ := List.mem_map.1 hb
    cases l with
    | nil => exact absurd rfl (hne _ hl)
    | cons u l => exact hv _ hl u (List.mem_cons_self ..)
  refine calls_of Tryd.func48 rfl rfl ?_
  refine WP_seq ?_
  refine WP_r rfl ?_
  refine s_val rfl (x_move (by conv => lhs; whnf)) ?_
  refine s_val rfl (x_nilCheck rfl) ?_
  refine s_val rfl (x_field (off := 2) (by kernel_rfl) rfl) ?_
  refine s_val rfl (x_load (by kernel_rfl) rfl (by first | exact H.cell (i := 0) rfl rfl | exact hI.1 | exact hI.2.1)) ?_
  refine s_call rfl (by kernel_rfl) (keys_calls (mb := mb)) rfl rfl ?_
  rintro v w1 ⟨rfl, rfl⟩
  have HM := H.mapW (i := 2) rfl
  have H1 := H.alloc (.cells #[.map (some mb)] 81)
  have HM1 := H1.mapW (i := 2) rfl
  clear H
  refine s_call rfl (by kernel_rfl) (sorted_calls (p := w.heap.size) (mb := mb) (H1.cell (i := 7) (off := 0) rfl rfl) (Array.getElem?_eq_some_iff.1 (H1.block (i := 7) rfl).1).1 HM1 (many_wf hok hM) (by have := many_len hM HM.nodup; omega)) rfl rfl ?_
  rintro v w2 ⟨ka, kc, ks, rfl, H2, hp, hk⟩
  obtain ⟨K, hKe, hKp, hK⟩ := keysNat hM hp hk
  have hKl : ks.length = K.length := by rw [hKe, List.length_map]
  rw [hKl, hKe] at H2
  rw [hKl]
  clear hp hk hKl hKe
  have hK4 : K.length ≤ 4096 := by
    have := nodup_le x.vals.length K (List.nodup_iff_pairwise_ne.2 (hKp.imp fun h => Nat.ne_of_lt h)) fun k hk => by
      obtain ⟨i, l, h1, _, h3⟩ := (hK k).1 hk
      have := (List.getElem?_eq_some_iff.1 h1).1
      omega
    omega
  have H : Sat w0 w2 ([_, _, _, _, _] ++ ([G s, F] ++ [_, _])) := H1.more H2
  replace H := H.back
  simp only [List.cons_append, List.nil_append] at H
  rw [D.sure_eq] at H
  clear H1 H2 HM HM1
  refine s_val rfl (x_lenS (by kernel_rfl) rfl) ?_
  refine s_val rfl (x_move (by conv => lhs; whnf)) ?_
  refine s_end ?_
  refine WP_block ?_
  refine WP_loopA (α := Nat) (fun k => [(0, dp d), (1, .func (.func g) #[] caps), (11, .slice ka K.length kc), (12, .int .i64 K.length), (13, .int .i64 k)]) (fun k w' => k ≤ K.length ∧ C k (settleK step x.vals 0 (K.take k) (x.vals.map (fun l => l.headD []), s)).2 ∧ Sat w0 w' ([
    blk d (.cells #[.slice a (256 * x.vals.length) cap, .map (some fb), .map (some mb), .int .i64 x.left, .bool x.off, .int .i64 x.taken] 83 (0, 0)),
    slo 5 1 a (256 * x.vals.length) cap (bys (settleK step x.vals 0 (K.take k) (x.vals.map (fun l => l.headD []), s)).1.flatten), mapP intF mb mm, mapP pairF fb (ff.map Fe.pair), stars (fo.map Fe.own),
    blk w.heap.size (.cells #[.map (some mb)] 81), slo 3 1 ka K.length kc ((K.map (fun n : Nat => (n : Int))).map intF)] ++
    [G (settleK step x.vals 0 (K.take k) (x.vals.map (fun l => l.headD []), s)).2, F])) (fun k => K.length - k) 0 ⟨rfl, rfl, rfl, rfl, rfl, trivial⟩ ⟨Nat.zero_le _, hC0, H⟩ ?_
  clear H
  intro k ρ w3 ⟨hkl, hCk, H⟩
  generalize hr : settleK step x.vals 0 (K.take k) (x.vals.map (fun l => l.headD []), s) = r at H hCk
  have hrS : ∀ b ∈ r.1, b.length = 256 := by
    rw [← hr]
    exact settleK_sect step x.vals hs hv _ _ (fun q hq => by
      obtain ⟨i, l, h1, h2, h3⟩ := (hK q).1 (List.mem_of_mem_take hq)
      have : q = i := by omega
      exact ⟨l, by rw [this]; exact h1, fun e => by rw [e] at h2; simp at h2⟩) hS0
  have hrl : r.1.length = x.vals.length := by rw [← hr, settleK_len, List.length_map]
  refine WP_r rfl ?_
  refine s_val rfl (x_lss rfl rfl) ?_
  refine s_end ?_
  refine WP_seq ?_
  refine WP_cond_dec rfl (fun h1 => ?_) (fun h1 => ?_)
  · skip
    refine WP_skip ?_
    refine thenQ_n ?_
    refine WP_seq ?_
    refine WP_block ?_
    have hk : k < K.length := by omega
    have HR := H.rd (i := 6) rfl
    obtain ⟨i, hKi⟩ : ∃ i, K[k]? = some i := ⟨_, List.getElem?_eq_getElem hk⟩
    obtain ⟨i', l, hli, hll, e⟩ := (hK i).1 (List.mem_of_getElem? hKi)
    have e' : i' = i := by omega
    subst e'
    have hel : ∀ j, j = k → ((K.map (fun n : Nat => (n : Int))).map intF)[j]? = some (.int .i64 (i' : Nat)) := fun j hj => by
      subst hj; rw [List.getElem?_map, List.getElem?_map, hKi]; rfl
    have hil : i' < x.vals.length := (List.getElem?_eq_some_iff.1 hli).1
    have hlc := (hok.each l (List.mem_of_getElem? hli)).2
    refine WP_r rfl ?_
    refine s_val rfl (x_index (show SlT Tryd.prog 22 3 1 8 from ⟨by kernel_rfl, by kernel_rfl⟩) rfl rfl (by omega) (by omega) HR) ?_
    refine s_val rfl (x_loadR (by kernel_rfl) rfl HR (hel _ (by omega))) ?_
    refine s_val rfl (x_assign (by conv => lhs; whnf)) ?_
    refine s_end ?_
    have c0 := H.cell (i := 0) (off := 0) rfl rfl
    have c2 := H.cell (i := 0) (off := 2) rfl rfl
    have HM := H.mapW (i := 2) rfl
    have hcap := (H.rd (i := 1) rfl).2.1
    have hlk := many_look hM HM.nodup hli (hne l (List.mem_of_getElem? hli))
    have hrs : r.1[i']? = some (l.headD []) := by
      rw [← hr, settleK_other step x.vals _ _ _ (fun hm => ?_)]
      · show (x.vals.map _)[i']? = _
        rw [List.getElem?_map, hli]; rfl
      · obtain ⟨j, hj, e⟩ := List.mem_iff_getElem.1 hm
        have hjk : j < k := by simp at hj; omega
        have e2 : K[j]'(by omega) = i' := by rw [← e]; simp
        have h5 := List.pairwise_iff_getElem.1 hKp j k (by omega) hk hjk
        have h6 := (List.getElem?_eq_some_iff.1 hKi).2
        omega
    refine WP_draw (fun w => w.cell? ⟨d, 0, none⟩ = some (.slice a (256 * x.vals.length) cap) ∧ w.cell? ⟨d, 2, none⟩ = some (.map (some mb)) ∧ MapAt w intF mb mm) (.float 0 (.float 1 (.float 2 (.float 3 (.float 4 (.float 5 (.float 6 (.float 7 (.float 8 (.float 9 (.float 10 (.float 11 (.float 12 (.float 13 (.float 14 (.float 15 (.float 16 (.fork [(17, .fork [(18, .fork [(19, .done)])])])))))))))))))))))) (by kernel_rfl) (by kernel_rfl) ⟨c0, c2, HM⟩ ?_
    replace H := H.heapEq (w' := { w3 with drawn := w3.drawn + 1 }) rfl
    refine r_val rfl rfl (fun w hI => x_move (by conv => lhs; whnf)) ?_
    refine r_val rfl rfl (fun w hI => x_nilCheck rfl) ?_
    refine r_val rfl rfl (fun w hI => x_field (off := 0) (by kernel_rfl) rfl) ?_
    refine r_val rfl rfl (fun w hI => x_load (by kernel_rfl) rfl (by first | exact H.cell (i := 0) rfl rfl | exact hI.1 | exact hI.2.1)) ?_
    refine r_val rfl rfl (fun w hI => x_move (by conv => lhs; whnf)) ?_
    refine r_val rfl rfl (fun w hI => x_muli rfl rfl (by omega)) ?_
    refine r_val rfl rfl (fun w hI => x_sliceLo (show SlT Tryd.prog 44 5 1 1 from ⟨by kernel_rfl, by kernel_rfl⟩) rfl rfl (by omega) (by omega) hcap) ?_
    refine r_val rfl rfl (fun w hI => x_move (by conv => lhs; whnf)) ?_
    refine r_val rfl rfl (fun w hI => x_move (by conv => lhs; whnf)) ?_
    refine r_val rfl rfl (fun w hI => x_move (by conv => lhs; whnf)) ?_
    refine r_val rfl rfl (fun w hI => x_move (by conv => lhs; whnf)) ?_
    refine r_val rfl rfl (fun w hI => x_move (by conv => lhs; whnf)) ?_
    refine r_val rfl rfl (fun w hI => x_nilCheck rfl) ?_
    refine r_val rfl rfl (fun w hI => x_field (off := 2) (by kernel_rfl) rfl) ?_
    refine r_val rfl rfl (fun w hI => x_load (by kernel_rfl) rfl (by first | exact H.cell (i := 0) rfl rfl | exact hI.1 | exact hI.2.1)) ?_
    refine r_val rfl rfl (fun w hI => x_move (by conv => lhs; whnf)) ?_
    refine r_val rfl rfl (fun w hI => x_lookupV (show Tryd.prog.underlying 81 = some (.map 3 3) by kernel_rfl) keyT_many (show ZeroT Tryd.prog 3 (.int .i64 0) by unfold ZeroT; kernel_rfl) hlk rfl (k := (i' : Int)) rfl hI.2.2) ?_
    refine r_one rfl ?_
    refine s_call rfl hb (hG _ _ k r.2 i' (l.length - 1) hCk (by omega) (by omega) H.front2) rfl rfl ?_
    rintro v w4 ⟨rfl, H4⟩
    replace H := H4.unfront2
    clear H4
    have hst := hs r.2 (l.length - 1)
    obtain ⟨bs, hbs⟩ : ∃ bs, l[(step r.2 (l.length - 1)).1]? = some bs := ⟨_, List.getElem?_eq_getElem (by omega)⟩
    have hbl : bs.length = 256 := hv l (List.mem_of_getElem? hli) _ (List.mem_of_getElem? hbs)
    refine s_end ?_
    refine ⟨⟨H.cell (i := 0) (off := 0) rfl rfl, H.cell (i := 0) (off := 2) rfl rfl, H.mapW (i := 2) rfl⟩, ?_⟩
    refine r_one rfl ?_
    refine s_call rfl (by kernel_rfl) (value_any hok hF hfo (hsh _ (H.only (i := 8) rfl)) H hrS hrs hli hbs) rfl rfl ?_
    rintro v w5 ⟨va, vc, rfl, hrd, e5⟩
    replace H := H.heapEq e5
    clear e5
    refine s_end ?_
    refine ⟨⟨H.cell (i := 0) (off := 0) rfl rfl, H.cell (i := 0) (off := 2) rfl rfl, H.mapW (i := 2) rfl⟩, ?_⟩
    refine r_one rfl ?_
    refine s_copy rfl (show SlT Tryd.prog 44 5 1 1 from ⟨by kernel_rfl, by kernel_rfl⟩) rfl rfl H (i := 1) rfl (cutAt_sub (H.rd (i := 1) rfl) (lo := i' * 256) (hi := 256 * x.vals.length) (by omega) (Nat.le_refl _)) (by rw [bys_length, flatLen 256 _ hrS, hrl]; omega) hrd (bys_oneCell _) ?_
    clear H
    intro w6 H
    simp only [List.cons_append, List.nil_append, List.set_cons_zero, List.set_cons_succ] at H
    refine s_end ?_
    refine ⟨⟨H.cell (i := 0) (off := 0) rfl rfl, H.cell (i := 0) (off := 2) rfl rfl, H.mapW (i := 2) rfl⟩, ?_⟩
    refine r_done ?_
    refine blockQ_n ?_
    refine thenQ_n ?_
    refine WP_region rfl ?_
    refine s_val rfl (x_addi rfl rfl (by omega)) ?_
    refine s_val rfl (x_move (by conv => lhs; whnf)) ?_
    refine s_end ?_
    refine loopQ_A (k + 1) (by omega) ⟨rfl, rfl, rfl, rfl, rfl, trivial⟩ ⟨by omega, ?_⟩
    have hCn := hC k r.2 (l.length - 1) hCk
    rw [take_snoc _ _ hKi, settleK_snoc, hr, settleK_one step x.vals i' r hli]
    have e1 : l.getD (step r.2 (l.length - 1)).1 [] = bs := by simp [List.getD_eq_getElem?_getD, hbs]
    have e2 : (bys bs).take (min 256 (256 * x.vals.length - ((i' : Int) * 256).toNat) * 1) = bys bs := List.take_of_length_le (by rw [bys_length]; omega)
    rw [e1, ← pasted_chunk 256 r.1 hrS i' bs (by omega) hbl]
    rw [e2, Nat.mul_one] at H
    exact ⟨hCn, H⟩
  · skip
    refine WP_exit ?_
    refine thenQ_e ?_
    refine loopQ_e ?_
    refine blockQ_hit ?_
    have hk : k = K.length := by omega
    rw [hk, List.take_length] at hr
    have hfin := settleK_eq step x.vals 0 K s hKp hK hne
    rw [hr] at hfin
    rw [hfin] at H
    refine thenQ_n ?_
    refine WP_r rfl ?_
    refine s_val rfl (x_move (by conv => lhs; whnf)) ?_
    refine s_val rfl (x_nilCheck rfl) ?_
    refine s_val rfl (x_field (off := 1) (by kernel_rfl) rfl) ?_
    refine s_val rfl (x_load (by kernel_rfl) rfl (by first | exact H.cell (i := 0) rfl rfl | exact hI.1 | exact hI.2.1)) ?_
    refine s_clearMap rfl (show Tryd.prog.underlying 80 = some (.map 102 44) by kernel_rfl) rfl H (i := 3) rfl ?_
    clear H
    intro w6 H
    simp only [List.set_cons_zero, List.set_cons_succ, List.cons_append, List.nil_append] at H
    refine s_end ?_
    refine WP_region rfl ?_
    refine s_val rfl (x_move (by conv => lhs; whnf)) ?_
    refine s_val rfl (x_nilCheck rfl) ?_
    refine s_val rfl (x_field (off := 2) (by kernel_rfl) rfl) ?_
    refine s_val rfl (x_load (by kernel_rfl) rfl (by first | exact H.cell (i := 0) rfl rfl | exact hI.1 | exact hI.2.1)) ?_
    refine s_clearMap rfl (show Tryd.prog.underlying 81 = some (.map 3 3) by kernel_rfl) rfl H (i := 2) rfl ?_
    clear H
    intro w7 H
    simp only [List.set_cons_zero, List.set_cons_succ] at H
    refine s_end ?_
    refine retQ_0n rfl ?_
    refine ⟨rfl, ?_⟩
    have H8 := ((H.imp (i := 4) (q := emp) rfl fun _ _ => trivial).drop 5).drop 5
    have h1 := settle_one hs hok s
    refine DISK.closeL (settle_ok hs hok s) (many_none h1) (fresh_none h1) (fun _ h => by cases h) (fo := []) (a := a) (cap := cap) (fb := fb) (mb := mb) ?_
    unfold dlist
    rw [D.sure_eq, show (x.settle step s).vals.length = x.vals.length from settleL_length step x.vals s]
    exact H8
end Go.Sl
/- The disk: Sync, Crash. -/
namespace Go.Sl
open Go.Proofs

theorem Sat.emp2 {w0 w : World} {p q : HP} (H : Sat w0 w [p, q]) : Sat w0 w [p, emp, q] := by
  have h : Sat w0 w ([p, q] ++ [emp]) := H.more ⟨Ext.refl w, fun _ => none, fun _ => none, fun _ => .inl rfl, (fun _ _ e => by cases e), (fun _ _ e => by cases e), trivial, trivial⟩
  exact h.perm (.cons _ (.swap _ _ _))
def D.sync (x : D) : Int × D := if x.take.1 = true then (0, x.take.2.settle (fun (_ : Unit) m => (m, ())) ()) else (10, x.take.2)
theorem Sync1_calls {w : World} (i m : Int) : Calls Tryd.prog 63 (([.int .i64 i, .int .i64 m] : List Value) ++ []).toArray w (Ret fun v w' => v = .int .i64 m ∧ core w' = core w) := by
  refine calls_of Tryd.func63 rfl rfl ?_
  refine WP_r rfl ?_
  refine s_val rfl (x_assign (by conv => lhs; whnf)) ?_
  refine s_end ?_
  refine WP_r rfl ?_
  refine s_val rfl (x_move (by conv => lhs; whnf)) ?_
  refine s_val rfl (x_assign (by conv => lhs; whnf)) ?_
  refine s_end ?_
  refine WP_ret ?_
  refine retQ_1 rfl (by conv => lhs; whnf) ?_
  exact ⟨rfl, rfl⟩
theorem Sync_calls {w0 w : World} {d : Nat} {x : D} {sh : List Fe} {F : HP} (hsh : RO w0 F sh) (H : Sat w0 w [DISK d x sh, F]) :
    Calls Tryd.prog 42 #[dp d] w (Ret fun v w' => v = .int .i64 x.sync.1 ∧ Sat w0 w' [DISK d x.sync.2 sh, F]) := by
  refine calls_of Tryd.func42 rfl rfl ?_
  refine WP_r rfl ?_
  refine s_val rfl (x_assign (by conv => lhs; whnf)) ?_
  refine s_end ?_
  refine WP_seq ?_
  refine WP_block ?_
  refine WP_r rfl ?_
  refine s_val rfl (x_move (by conv => lhs; whnf)) ?_
  refine s_call rfl (by kernel_rfl) (is_calls (H.holdD (i := 0) rfl (j := 1) rfl hsh)) rfl rfl ?_
  rintro v w1 ⟨rfl, e1⟩
  replace H := H.heapEq e1
  clear e1
  refine s_val rfl (x_not rfl) ?_
  refine s_val rfl (x_assign (by conv => lhs; whnf)) ?_
  refine s_end ?_
  refine WP_cond_false rfl ?_
  refine WP_r rfl ?_
  refine s_val rfl (x_move (by conv => lhs; whnf)) ?_
  refine s_call rfl (by kernel_rfl) (take_calls H) rfl rfl ?_
  clear H
  rintro v w2 ⟨rfl, H⟩
  refine s_val rfl (x_not rfl) ?_
  refine s_val rfl (x_assign (by conv => lhs; whnf)) ?_
  refine s_end ?_
  refine WP_cond rfl (fun h1 => ?_) (fun h1 => ?_)
  · skip
    refine WP_r rfl ?_
    refine s_val rfl (x_assign (by conv => lhs; whnf)) ?_
    refine s_end ?_
    refine WP_ret ?_
    refine blockQ_r ?_
    refine thenQ_r ?_
    refine retQ_1 rfl (by conv => lhs; whnf) ?_
    have ht : ¬ x.take.1 = true := by simpa using h1
    unfold D.sync; rw [if_neg ht]
    exact ⟨rfl, H⟩
  · skip
    refine WP_skip ?_
    refine blockQ_n ?_
    refine thenQ_n ?_
    refine WP_r rfl ?_
    refine s_val rfl (x_move (by conv => lhs; whnf)) ?_
    refine s_call rfl (by kernel_rfl) (settle_calls (step := fun (_ : Unit) m => (m, ())) (G := fun _ => emp) (C := fun _ _ => True) (g := 63) (caps := #[]) (fun _ _ => Nat.le_refl _) (by kernel_rfl) hsh (fun _ _ _ _ => trivial) (fun w L k s i m _ _ _ H => Calls.mono (Sync1_calls i m) (Ret.mono fun v w' ⟨e1, e2⟩ => ⟨e1, H.heapEq e2⟩)) (s := ()) trivial H.emp2) rfl rfl ?_
    rintro v w3 ⟨rfl, H3⟩
    refine s_end ?_
    refine WP_r rfl ?_
    refine s_val rfl (x_assign (by conv => lhs; whnf)) ?_
    refine s_end ?_
    refine WP_ret ?_
    refine retQ_1 rfl (by conv => lhs; whnf) ?_
    have ht : x.take.1 = true := by simpa using h1
    unfold D.sync; rw [if_pos ht]
    exact ⟨rfl, H3.drop 1⟩
/-- What a pick counts for. -/
def pickOf (picks : List Int) (s m : Nat) : Nat := if picks.length ≤ s then 0 else ((picks.getD s 0) % 18446744073709551616).toNat % (m + 1)
def D.crash (x : D) (picks : List Int) : D := { x.settle (fun (s : Nat) m => (pickOf picks s m, s + 1)) 0 with off := false, left := -1 }
theorem pickOf_le (picks : List Int) (s m : Nat) : pickOf picks s m ≤ m := by
  unfold pickOf
  split
  · omega
  · have := Nat.mod_lt ((picks.getD s 0) % 18446744073709551616).toNat (show 0 < m + 1 by omega)
    omega
theorem Crash1_calls {w0 w : World} {jb pb : Nat} {picks : List Int} {pa : Option Addr} {pn pc k m : Nat} {i : Int} {F0 L : HP} (hk : k < 4096) (hm : m ≤ 4611686018427387904) (hR : ∀ w', Sat w0 w' [F0] → Rd w' pa pn pc 1 (picks.map intF))
    (H : Sat w0 w [blk jb (.cells #[.int .i64 ((k : Int) - 1)] 3 (0, 0)), stars [blk pb (.cells #[.slice pa pn pc] 22 (0, 0)), F0], L]) :
    Calls Tryd.prog 49 (([.int .i64 i, .int .i64 m] : List Value) ++ ([.pointer (some ⟨jb, 0, none⟩), .pointer (some ⟨pb, 0, none⟩)] : List Value)).toArray w
      (Ret fun v w' => v = .int .i64 (pickOf picks k m : Nat) ∧ Sat w0 w' [blk jb (.cells #[.int .i64 (((k + 1 : Nat) : Int) - 1)] 3 (0, 0)), stars [blk pb (.cells #[.slice pa pn pc] 22 (0, 0)), F0], L]) := by
  replace H : Sat w0 w ([blk pb (.cells #[.slice pa pn pc] 22 (0, 0)), F0] ++ [blk jb (.cells #[.int .i64 ((k : Int) - 1)] 3 (0, 0)), L]) := (H.perm (.swap _ _ _)).join
  replace H : Sat w0 w [blk jb (.cells #[.int .i64 ((k : Int) - 1)] 3 (0, 0)), blk pb (.cells #[.slice pa pn pc] 22 (0, 0)), F0, L] := H.perm ((List.perm_append_comm (l₁ := [blk pb (.cells #[.slice pa pn pc] 22 (0, 0)), F0]) (l₂ := [blk jb (.cells #[.int .i64 ((k : Int) - 1)] 3 (0, 0))])).append_right [L])
  suffices hh : Calls Tryd.prog 49 (([.int .i64 i, .int .i64 m] : List Value) ++ ([.pointer (some ⟨jb, 0, none⟩), .pointer (some ⟨pb, 0, none⟩)] : List Value)).toArray w
      (Ret fun v w' => v = .int .i64 (pickOf picks k m : Nat) ∧ Sat w0 w' [blk jb (.cells #[.int .i64 ((k : Int) - 1 + 1)] 3 (0, 0)), blk pb (.cells #[.slice pa pn pc] 22 (0, 0)), F0, L]) by
    refine Calls.mono hh (Ret.mono ?_)
    rintro v w' ⟨e, H⟩
    refine ⟨e, ?_⟩
    have e2 : ((k + 1 : Nat) : Int) - 1 = (k : Int) - 1 + 1 := by omega
    rw [e2]
    have H5 : Sat w0 w' ([blk pb (.cells #[.slice pa pn pc] 22 (0, 0)), F0] ++ [blk jb (.cells #[.int .i64 ((k : Int) - 1 + 1)] 3 (0, 0)), L]) :=
      H.perm ((List.perm_append_comm (l₁ := [blk jb (.cells #[.int .i64 ((k : Int) - 1 + 1)] 3 (0, 0))]) (l₂ := [blk pb (.cells #[.slice pa pn pc] 22 (0, 0)), F0])).append_right [L])
    exact H5.part.perm (.swap _ _ _)
  have HR : Rd w pa pn pc 1 (picks.map intF) := hR w (((H.drop 0).drop 0).drop 1)
  have hpn : pn = picks.length := by have := HR.1; simp at this; omega
  refine calls_of Tryd.func49 rfl rfl ?_
  refine WP_r rfl ?_
  refine s_val rfl (x_assign (by conv => lhs; whnf)) ?_
  refine s_end ?_
  refine WP_r rfl ?_
  refine s_val rfl (x_load (by kernel_rfl) rfl (by first | assumption | exact H.cell (i := 0) rfl rfl | exact H.cell (i := 1) rfl rfl | exact H.cell (i := 2) rfl rfl | exact H.cell (i := 3) rfl rfl | exact H.cell (i := 4) rfl rfl | exact H.cell (i := 5) rfl rfl)) ?_
  refine s_val rfl (x_addi rfl rfl (by omega)) ?_
  refine s_store rfl (by kernel_rfl) rfl (by conv => lhs; whnf) rfl H (i := 0) rfl rfl ?_
  clear H; intro _ H
  simp only [List.set_cons_zero, List.set_cons_succ, List.setIfInBounds_toArray] at H
  refine s_end ?_
  refine WP_seq ?_
  have HR2 := hR _ (((H.drop 0).drop 0).drop 1)
  refine WP_r rfl ?_
  refine s_val rfl (x_load (by kernel_rfl) rfl (by first | assumption | exact H.cell (i := 0) rfl rfl | exact H.cell (i := 1) rfl rfl | exact H.cell (i := 2) rfl rfl | exact H.cell (i := 3) rfl rfl | exact H.cell (i := 4) rfl rfl | exact H.cell (i := 5) rfl rfl)) ?_
  refine s_val rfl (x_load (by kernel_rfl) rfl (by first | assumption | exact H.cell (i := 0) rfl rfl | exact H.cell (i := 1) rfl rfl | exact H.cell (i := 2) rfl rfl | exact H.cell (i := 3) rfl rfl | exact H.cell (i := 4) rfl rfl | exact H.cell (i := 5) rfl rfl)) ?_
  refine s_val rfl (x_lenS (by kernel_rfl) rfl) ?_
  refine s_val rfl (x_geq rfl rfl) ?_
  refine s_end ?_
  refine WP_cond_dec rfl (fun h1 => ?_) (fun h1 => ?_)
  · skip
    refine WP_r rfl ?_
    refine s_val rfl (x_assign (by conv => lhs; whnf)) ?_
    refine s_end ?_
    refine WP_ret ?_
    refine thenQ_r ?_
    refine retQ_1 rfl (by conv => lhs; whnf) ?_
    refine ⟨?_, H⟩
    unfold pickOf
    rw [if_pos (by omega)]; rfl
  · skip
    refine WP_skip ?_
    refine thenQ_n ?_
    have hkl : k < picks.length := by omega
    have hel : ∀ j, j = k → (picks.map intF)[j]? = some (.int .i64 picks[k]) := fun j hj => by
      subst hj; rw [List.getElem?_map, List.getElem?_eq_getElem hkl]; rfl
    refine WP_r rfl ?_
    refine s_val rfl (x_load (by kernel_rfl) rfl (by first | assumption | exact H.cell (i := 0) rfl rfl | exact H.cell (i := 1) rfl rfl | exact H.cell (i := 2) rfl rfl | exact H.cell (i := 3) rfl rfl | exact H.cell (i := 4) rfl rfl | exact H.cell (i := 5) rfl rfl)) ?_
    refine s_val rfl (x_load (by kernel_rfl) rfl (by first | assumption | exact H.cell (i := 0) rfl rfl | exact H.cell (i := 1) rfl rfl | exact H.cell (i := 2) rfl rfl | exact H.cell (i := 3) rfl rfl | exact H.cell (i := 4) rfl rfl | exact H.cell (i := 5) rfl rfl)) ?_
    refine s_val rfl (x_index (show SlT Tryd.prog 22 3 1 8 from ⟨by kernel_rfl, by kernel_rfl⟩) rfl rfl (by omega) (by omega) HR2) ?_
    refine s_val rfl (x_loadR (by kernel_rfl) rfl HR2 (hel _ (by omega))) ?_
    refine s_val rfl (x_convI (q := .i64) (k' := .u64) (by kernel_rfl) (by kernel_rfl) rfl) ?_
    refine s_val rfl (x_move (by conv => lhs; whnf)) ?_
    refine s_val rfl (x_addi rfl rfl (by omega)) ?_
    refine s_val rfl (x_convI (q := .i64) (k' := .u64) (by kernel_rfl) (by kernel_rfl) rfl) ?_
    refine s_val rfl (x_remi rfl rfl ⟨by rw [IntKind.wrap_u64]; omega, by rw [IntKind.wrap_u64]; omega⟩) ?_
    refine s_val rfl (x_convI (q := .u64) (k' := .i64) (by kernel_rfl) (by kernel_rfl) rfl) ?_
    refine s_val rfl (x_assign (by conv => lhs; whnf)) ?_
    refine s_end ?_
    refine WP_ret ?_
    refine retQ_1 rfl (by conv => lhs; whnf) ?_
    refine ⟨?_, H⟩
    have e1 : IntKind.u64.wrap ((m : Int) + 1) = ((m + 1 : Nat) : Int) := by rw [IntKind.wrap_u64]; omega
    have e2 : IntKind.u64.wrap picks[k] = (((picks[k] % 18446744073709551616).toNat : Nat) : Int) := by rw [IntKind.wrap_u64]; omega
    have e3 : picks.getD k 0 = picks[k] := by simp [List.getD_eq_getElem?_getD, hkl]
    have e4 := Nat.mod_lt (picks[k] % 18446744073709551616).toNat (show 0 < m + 1 by omega)
    unfold pickOf
    rw [if_neg (by omega), e1, e2, e3, ← Int.natCast_emod, IntWalk.i64_in _ (by omega)]
theorem Sat.tail {w0 w : World} {A B : List HP} (H : Sat w0 w (A ++ B)) : Sat w0 w (A ++ [stars B]) := ((H.perm List.perm_append_comm).part).perm (List.perm_append_comm (l₁ := [stars B]) (l₂ := A))
theorem Sat.untail {w0 w : World} {A B : List HP} (H : Sat w0 w (A ++ [stars B])) : Sat w0 w (A ++ B) := ((H.perm (List.perm_append_comm (l₁ := A) (l₂ := [stars B]))).join).perm List.perm_append_comm
theorem Crash_calls {w0 w : World} {d : Nat} {x : D} {sh : List Fe} {F : HP} (hsh : RO w0 F sh) {picks : List Int} {pa : Option Addr} {pn pc : Nat} (hR : ∀ w', Sat w0 w' [F] → Rd w' pa pn pc 1 (picks.map intF)) (H : Sat w0 w [DISK d x sh, F]) :
    Calls Tryd.prog 21 #[dp d, .slice pa pn pc] w (Ret fun v w' => v = .int .i64 0 ∧ Sat w0 w' [DISK d (x.crash picks) sh, F]) := by
  refine calls_of Tryd.func21 rfl rfl ?_
  refine WP_r rfl ?_
  refine s_box rfl (v := .slice pa pn pc) (by conv => lhs; whnf) H ?_
  intro pb w1 H1
  replace H : Sat w0 w1 [DISK d x sh, F, blk pb (.cells #[.slice pa pn pc] 22 (0, 0))] := H1
  clear H1
  refine s_val rfl (x_assign (by conv => lhs; whnf)) ?_
  refine s_end ?_
  refine WP_seq ?_
  refine WP_r rfl ?_
  refine s_val rfl (x_move (by conv => lhs; whnf)) ?_
  refine s_call rfl (by kernel_rfl) (is_calls (H.holdD (i := 0) rfl (j := 1) rfl hsh)) rfl rfl ?_
  rintro v w2 ⟨rfl, e1⟩
  replace H := H.heapEq e1
  clear e1
  refine s_val rfl (x_not rfl) ?_
  refine s_end ?_
  refine WP_cond_false rfl ?_
  refine WP_skip ?_
  refine thenQ_n ?_
  refine WP_r rfl ?_
  refine s_alloc rfl (show ZeroT Tryd.prog 3 (.int .i64 0) by unfold ZeroT; kernel_rfl) H ?_
  intro jb w3 H3
  replace H : Sat w0 w3 [DISK d x sh, F, blk pb (.cells #[.slice pa pn pc] 22 (0, 0)), blk jb (.cells #[.int .i64 0] 3 (0, 0))] := H3
  clear H3
  refine s_store rfl (by kernel_rfl) rfl (by conv => lhs; whnf) rfl H (i := 3) rfl rfl ?_
  clear H; intro _ H
  simp only [List.set_cons_zero, List.set_cons_succ, List.setIfInBounds_toArray] at H
  refine s_end ?_
  have e0 : ((-1 : Int)) = ((0 : Nat) : Int) - 1 := by decide
  rw [e0] at H
  have H4 : Sat w0 _ ([DISK d x sh] ++ [blk jb (.cells #[.int .i64 (((0 : Nat) : Int) - 1)] 3 (0, 0)), blk pb (.cells #[.slice pa pn pc] 22 (0, 0)), F]) := H.perm (List.Perm.append_left [DISK d x sh] (List.reverse_perm [blk jb (.cells #[.int .i64 (((0 : Nat) : Int) - 1)] 3 (0, 0)), blk pb (.cells #[.slice pa pn pc] 22 (0, 0)), F]))
  have H5 : Sat w0 _ ([DISK d x sh, blk jb (.cells #[.int .i64 (((0 : Nat) : Int) - 1)] 3 (0, 0))] ++ [blk pb (.cells #[.slice pa pn pc] 22 (0, 0)), F]) := H4
  replace H := H5.tail
  clear H4 H5
  refine WP_r rfl ?_
  refine s_val rfl (x_move (by conv => lhs; whnf)) ?_
  refine s_val rfl (x_makeFuncA (l1 := []) (l2 := [_, _]) rfl rfl) ?_
  refine s_call rfl (by kernel_rfl) (settle_calls (σ := Nat) (step := fun (s : Nat) m => (pickOf picks s m, s + 1)) (G := fun s : Nat => blk jb (.cells #[.int .i64 ((s : Int) - 1)] 3 (0, 0))) (C := fun k s => s = k) (g := 49) (caps := #[.pointer (some ⟨jb, 0, none⟩), .pointer (some ⟨pb, 0, none⟩)]) (fun s m => pickOf_le picks s m) (by kernel_rfl) (hsh.inn (i := 1) rfl) (fun k s m h => by show s + 1 = k + 1; omega) (fun w L k s i m h hk hm H => by subst h; exact Crash1_calls hk hm hR H) (s := 0) rfl H) rfl rfl ?_
  clear H
  rintro v w5 ⟨rfl, H⟩
  refine s_end ?_
  have hpos := pickOf_le picks
  obtain ⟨a, cap, fb, mb, mm, ff, fo, hok, hM, hF, hfo, H⟩ := DISK.openL H
  simp only [dlist, List.cons_append, List.nil_append] at H
  refine WP_r rfl ?_
  refine s_val rfl (x_move (by conv => lhs; whnf)) ?_
  refine s_val rfl (x_move (by conv => lhs; whnf)) ?_
  refine s_val rfl (x_nilCheck rfl) ?_
  refine s_val rfl (x_field (off := 4) (by kernel_rfl) rfl) ?_
  refine s_store rfl (by kernel_rfl) rfl (by conv => lhs; whnf) rfl H (i := 0) rfl rfl ?_
  clear H; intro _ H
  simp only [List.set_cons_zero, List.set_cons_succ, List.setIfInBounds_toArray] at H
  refine s_val rfl (x_nilCheck rfl) ?_
  refine s_val rfl (x_field (off := 3) (by kernel_rfl) rfl) ?_
  refine s_store rfl (by kernel_rfl) rfl (by conv => lhs; whnf) rfl H (i := 0) rfl rfl ?_
  clear H; intro _ H
  simp only [List.set_cons_zero, List.set_cons_succ, List.setIfInBounds_toArray] at H
  refine s_end ?_
  refine WP_r rfl ?_
  refine s_val rfl (x_assign (by conv => lhs; whnf)) ?_
  refine s_end ?_
  refine WP_ret ?_
  refine retQ_1 rfl (by conv => lhs; whnf) ?_
  refine ⟨rfl, ?_⟩
  have H6 := (H.drop 5).untail (A := [_, _, _, _, _])
  have H7 := H6.drop 5
  have hok' : (x.crash picks).Ok := ⟨hok.pos, hok.big, hok.each, hok.sect, by show -1 ≤ (-1 : Int) ∧ (-1 : Int) ≤ _; decide, hok.taken⟩
  exact DISK.closeL hok' (x := x.crash picks) hM hF hfo (a := a) (cap := cap) (fb := fb) (mb := mb) H7
end Go.Sl
/- The disk: Sure, Image. -/
namespace Go.Sl
open Go.Proofs

theorem sure_len {x : D} (h : x.Ok) : x.sure.length = 256 * x.vals.length := by
  rw [D.sure_eq, flatLen 256, List.length_map]
  intro v hv
  obtain ⟨l, hl, rfl⟩ := List.mem_map.1 hv
  have := h.each l hl
  cases l with
  | nil => exact absurd rfl this.1
  | cons u l => exact h.sect _ hl u (List.mem_cons_self ..)
theorem Sure_calls {w : World} {d : Nat} {x : D} (h : HoldD w d x) : Calls Tryd.prog 50 #[dp d] w (Ret fun v w' => ∃ a cap, v = .slice a (256 * x.vals.length) cap ∧ Sat w w' [slo 5 1 a (256 * x.vals.length) cap (bys x.sure)]) := by
  refine calls_of Tryd.func50 rfl rfl ?_
  refine WP_r rfl ?_
  refine s_val rfl (x_assign (by conv => lhs; whnf)) ?_
  refine s_end ?_
  refine WP_seq ?_
  refine WP_r rfl ?_
  refine s_val rfl (x_move (by conv => lhs; whnf)) ?_
  refine s_call rfl (by kernel_rfl) (is_calls h) rfl rfl ?_
  rintro v w1 ⟨rfl, e1⟩
  have h1 := h.heapEq e1
  have hx := (Sat.nil (Ext.refl w)).heapEq e1
  obtain ⟨a, cap, fb, mb, mm, ff, R⟩ := DISK.read h1
  have hb := R.ok.big
  refine s_val rfl (x_not rfl) ?_
  refine s_end ?_
  refine WP_cond_false rfl ?_
  refine WP_skip ?_
  refine thenQ_n ?_
  refine WP_r rfl ?_
  refine s_val rfl (x_move (by conv => lhs; whnf)) ?_
  refine s_val rfl (x_nilCheck rfl) ?_
  refine s_val rfl (x_field (off := 0) (by kernel_rfl) rfl) ?_
  refine s_val rfl (x_load (by kernel_rfl) rfl R.c0) ?_
  refine s_call rfl (by kernel_rfl) (CloneB_calls R.sure (by omega)) rfl rfl ?_
  rintro v w2 ⟨a3, cap3, rfl, H3⟩
  have hx2 := hx.more H3
  refine s_val rfl (x_assign (by conv => lhs; whnf)) ?_
  refine s_end ?_
  refine WP_ret ?_
  refine retQ_1 rfl (by conv => lhs; whnf) ?_
  exact ⟨a3, cap3, rfl, hx2⟩
/-- The image while sectors are still to come. -/
def D.imgOf (x : D) (todo : List (Int × Value)) : List Sect := x.vals.mapIdx fun i l => if (i : Int) ∈ todo.map (·.1) then l.headD [] else l.getLastD []
def D.image (x : D) : List UInt8 := (x.vals.map fun l => l.getLastD []).flatten
theorem img_get (x : D) (todo : List (Int × Value)) (i : Nat) : (x.imgOf todo)[i]? = (x.vals[i]?).map fun l => if (i : Int) ∈ todo.map (·.1) then l.headD [] else l.getLastD [] := by
  unfold D.imgOf
  rw [List.getElem?_mapIdx]
theorem img_start {x : D} (hok : x.Ok) {mm : List (Int × Value)} (hM : Many x mm) : x.imgOf mm = x.vals.map fun l => l.headD [] := by
  apply List.ext_getElem?
  intro i
  rw [img_get, List.getElem?_map]
  cases hl : x.vals[i]? with
  | none => rfl
  | some l =>
    simp only [Option.map_some, Option.some.injEq]
    split
    · rfl
    · rename_i hn
      have h0 := hok.each l (List.mem_of_getElem? hl)
      match l, h0, hl, hn with
      | [u], _, _, _ => rfl
      | u :: v :: l, h0, hl, hn => exact absurd (List.mem_map.2 ⟨((i : Int), _), (hM _ _).2 ⟨i, _, hl, by simp, rfl, rfl⟩, rfl⟩) hn
theorem img_end (x : D) : x.imgOf [] = x.vals.map fun l => l.getLastD [] := by
  apply List.ext_getElem?
  intro i
  rw [img_get, List.getElem?_map]
  cases hl : x.vals[i]? with
  | none => rfl
  | some l => simp
theorem getLastD_mem {l : List Sect} (h : l ≠ []) : l.getLastD [] ∈ l := by
  rw [List.getLastD_eq_getLast?, List.getLast?_eq_some_getLast h]
  exact List.getLast_mem h
theorem headD_mem {l : List Sect} (h : l ≠ []) : l.headD [] ∈ l := by
  cases l with
  | nil => exact absurd rfl h
  | cons u l => exact List.mem_cons_self ..
theorem img_sect {x : D} (hok : x.Ok) (todo : List (Int × Value)) : ∀ b ∈ x.imgOf todo, b.length = 256 := fun b hb => by
  obtain ⟨i, hi⟩ := List.mem_iff_getElem?.1 hb
  rw [img_get] at hi
  cases hl : x.vals[i]? with
  | none => rw [hl] at hi; cases hi
  | some l =>
    rw [hl] at hi
    simp only [Option.map_some, Option.some.injEq] at hi
    have h0 := (hok.each l (List.mem_of_getElem? hl)).1
    subst hi
    split
    · exact hok.sect l (List.mem_of_getElem? hl) _ (headD_mem h0)
    · exact hok.sect l (List.mem_of_getElem? hl) _ (getLastD_mem h0)
theorem img_len (x : D) (todo : List (Int × Value)) : (x.imgOf todo).length = x.vals.length := by simp [D.imgOf]
theorem img_step {x : D} {todo : List (Int × Value)} {i : Nat} {l : List Sect} (hl : x.vals[i]? = some l) :
    x.imgOf (todo.filter fun q => !decide (q.1 = (i : Int))) = (x.imgOf todo).set i (l.getLastD []) := by
  have hlt : i < (x.imgOf todo).length := by rw [img_len]; exact (List.getElem?_eq_some_iff.1 hl).1
  apply List.ext_getElem?
  intro j
  by_cases hij : i = j
  · subst hij
    rw [img_get, List.getElem?_set_self hlt, hl, Option.map_some, if_neg]
    intro hm
    obtain ⟨q, hq, e⟩ := List.mem_map.1 hm
    have := (List.mem_filter.1 hq).2
    simp [e] at this
  · rw [img_get, List.getElem?_set_ne hij, img_get]
    have : ((j : Int) ∈ (todo.filter fun q => !decide (q.1 = (i : Int))).map (·.1)) ↔ (j : Int) ∈ todo.map (·.1) := by
      constructor
      · intro hm
        obtain ⟨q, hq, e⟩ := List.mem_map.1 hm
        exact List.mem_map.2 ⟨q, (List.mem_filter.1 hq).1, e⟩
      · intro hm
        obtain ⟨q, hq, e⟩ := List.mem_map.1 hm
        refine List.mem_map.2 ⟨q, List.mem_filter.2 ⟨hq, ?_⟩, e⟩
        have : ¬ q.1 = (i : Int) := by rw [e]; omega
        simp [this]
    simp only [this]
theorem Image_calls {w : World} {d : Nat} {x : D} (h : HoldD w d x) : Calls Tryd.prog 24 #[dp d] w (Ret fun v w' => ∃ a cap, v = .slice a (256 * x.vals.length) cap ∧ Sat w w' [slo 5 1 a (256 * x.vals.length) cap (bys x.image)]) := by
  have ⟨a, cap, fb, mb, mm, ff, R⟩ := DISK.read h
  have hok := R.ok
  have hM := R.many
  have hb := hok.big
  obtain ⟨es, clock, hes, hmi⟩ := R.mapM
  have hmlt := (Array.getElem?_eq_some_iff.1 hes).1
  have c2 := R.c2
  clear R
  refine calls_of Tryd.func24 rfl rfl ?_
  refine WP_r rfl ?_
  refine s_val rfl (x_assign (by conv => lhs; whnf)) ?_
  refine s_end ?_
  refine WP_r rfl ?_
  refine s_val rfl (x_move (by conv => lhs; whnf)) ?_
  refine s_call rfl (by kernel_rfl) (Sure_calls h) rfl rfl ?_
  rintro v w1 ⟨a1, cap1, rfl, H⟩
  refine s_val rfl (x_assign (by conv => lhs; whnf)) ?_
  refine s_end ?_
  refine WP_seq ?_
  refine WP_r rfl ?_
  refine s_val rfl (x_move (by conv => lhs; whnf)) ?_
  refine s_call rfl (by kernel_rfl) (written_calls (h.ext H.ext) (H.ext.cell c2)) rfl rfl ?_
  rintro v w2 ⟨rfl, e2⟩
  replace H := H.heapEq e2
  clear e2
  rw [D.sure_eq, ← img_start hok hM] at H
  refine s_range rfl (show Tryd.prog.underlying 81 = some (.map 3 3) by kernel_rfl) rfl ((H.ext.2.1 _ hmlt).trans hes) hmi H ?_
  intro r w3 H3 _
  clear H
  refine s_end ?_
  refine WP_block ?_
  refine WP_loopA (α := List (Int × Value)) (fun _ => [(0, dp d), (3, .slice a1 (256 * x.vals.length) cap1), (10, .pointer (some ⟨r, 0, none⟩))]) (fun todo w' => (∀ p ∈ todo, p ∈ mm) ∧ ∃ last, Sat w w' [slo 5 1 a1 (256 * x.vals.length) cap1 (bys (x.imgOf todo).flatten), iterP mb r es clock mm todo last])
    (fun todo => todo.length) mm ⟨rfl, rfl, rfl, trivial⟩ ⟨fun p hp => hp, none, H3⟩ ?_
  clear H3
  intro todo ρ w4 ⟨htm, last, H⟩
  refine WP_r rfl ?_
  refine s_next rfl rfl H (i := 1) rfl ((H.ext.2.1 _ hmlt).trans hes) hmi (fun ht => ?_) (fun p w5 hp H5 _ _ => ?_)
  · skip
    refine s_val rfl (x_extract rfl rfl) ?_
    refine s_end ?_
    refine WP_seq ?_
    refine WP_cond_false rfl ?_
    refine WP_exit ?_
    refine thenQ_e ?_
    refine loopQ_e ?_
    refine blockQ_hit ?_
    refine thenQ_n ?_
    refine WP_r rfl ?_
    refine s_val rfl (x_move (by conv => lhs; whnf)) ?_
    refine s_val rfl (x_assign (by conv => lhs; whnf)) ?_
    refine s_end ?_
    refine WP_ret ?_
    refine retQ_1 rfl (by conv => lhs; whnf) ?_
    subst ht
    rw [img_end] at H
    exact ⟨a1, cap1, rfl, H.drop 1⟩
  · skip
    refine s_val rfl (x_extract rfl rfl) ?_
    refine s_end ?_
    refine WP_seq ?_
    refine WP_cond_true rfl ?_
    refine WP_skip ?_
    refine thenQ_n ?_
    refine WP_block ?_
    refine WP_r rfl ?_
    clear H
    have H := H5
    clear H5
    simp only [List.set_cons_zero, List.set_cons_succ] at H
    obtain ⟨i, l, hli, hll, hk1, hk2⟩ := (hM p.1 p.2).1 (htm p hp)
    obtain ⟨pk, pv⟩ := p
    simp only at hk1 hk2
    subst hk1 hk2
    refine s_val rfl (x_entry (kf := intF) rfl H (i := 1) rfl ((H.ext.2.1 _ hmlt).trans hes) hmi) ?_
    refine s_val rfl (x_extract rfl rfl) ?_
    refine s_val rfl (x_extract rfl rfl) ?_
    refine s_val rfl (x_assign (by conv => lhs; whnf)) ?_
    refine s_val rfl (x_assign (by conv => lhs; whnf)) ?_
    refine s_end ?_
    have hil : i < x.vals.length := (List.getElem?_eq_some_iff.1 hli).1
    have hcap := (H.rd (i := 0) rfl).2.1
    have hlne := (hok.each l (List.mem_of_getElem? hli)).1
    have hlast : l[l.length - 1]? = some (l.getLastD []) := by
      rw [← List.getLast?_eq_getElem?, List.getLastD_eq_getLast?, List.getLast?_eq_some_getLast hlne]; rfl
    have hll' : (l.getLastD []).length = 256 := hok.sect l (List.mem_of_getElem? hli) _ (getLastD_mem hlne)
    refine WP_draw (fun _ => True) (.float 0 (.float 1 (.float 2 (.float 3 (.float 4 (.float 5 (.float 6 (.fork [(7, .fork [(8, .done)])])))))))) (by kernel_rfl) (by kernel_rfl) trivial ?_
    refine r_val rfl rfl (fun w hI => x_move (by conv => lhs; whnf)) ?_
    refine r_val rfl rfl (fun w hI => x_move (by conv => lhs; whnf)) ?_
    refine r_val rfl rfl (fun w hI => x_muli rfl rfl (by omega)) ?_
    refine r_val rfl rfl (fun w hI => x_sliceLo (show SlT Tryd.prog 44 5 1 1 from ⟨by kernel_rfl, by kernel_rfl⟩) rfl rfl (by omega) (by omega) hcap) ?_
    refine r_val rfl rfl (fun w hI => x_move (by conv => lhs; whnf)) ?_
    refine r_val rfl rfl (fun w hI => x_move (by conv => lhs; whnf)) ?_
    refine r_val rfl rfl (fun w hI => x_move (by conv => lhs; whnf)) ?_
    refine r_one rfl ?_
    refine s_call rfl (by kernel_rfl) (value_calls (h.ext (H.heapEq (w' := { w5 with drawn := w5.drawn + 1 }) rfl).ext) hli hlast) rfl rfl ?_
    rintro v w6 ⟨va, vc, rfl, hrd, e6⟩
    replace H := (H.heapEq (w' := { w5 with drawn := w5.drawn + 1 }) rfl).heapEq e6
    clear e6
    refine s_end ?_
    refine ⟨trivial, ?_⟩
    refine r_one rfl ?_
    refine s_copy rfl (show SlT Tryd.prog 44 5 1 1 from ⟨by kernel_rfl, by kernel_rfl⟩) rfl rfl H (i := 0) rfl (cutAt_sub (H.rd (i := 0) rfl) (lo := i * 256) (hi := 256 * x.vals.length) (by omega) (Nat.le_refl _)) (by rw [bys_length, flatLen 256 _ (img_sect hok _), img_len]; omega) hrd (bys_oneCell _) ?_
    clear H
    intro w7 H
    simp only [List.set_cons_zero] at H
    refine s_end ?_
    refine ⟨trivial, ?_⟩
    refine r_done ?_
    refine blockQ_n ?_
    refine loopQ_A (todo.filter fun q => !decide (q.1 = (i : Int))) ?_ ⟨rfl, rfl, rfl, trivial⟩ ⟨fun q hq => htm q (List.mem_filter.1 hq).1, some ((i : Int), .int .i64 ((l.length - 1 : Nat) : Int)), ?_⟩
    · have h1 := List.length_filter_le (fun q : Int × Value => !decide (q.1 = (i : Int))) todo
      rcases Nat.lt_or_eq_of_le h1 with h2 | h2
      · exact h2
      · have := (List.length_filter_eq_length_iff.1 h2) _ hp
        simp at this
    · have e2 : (bys (l.getLastD [])).take (min 256 (256 * x.vals.length - ((i : Int) * 256).toNat) * 1) = bys (l.getLastD []) := List.take_of_length_le (by rw [bys_length]; omega)
      rw [img_step hli, ← pasted_chunk 256 _ (img_sect hok _) i _ (by rw [img_len]; omega) hll']
      rw [e2, Nat.mul_one] at H
      exact H
end Go.Sl
/- The disk: New, Load. -/
namespace Go.Sl
open Go.Proofs

def zsect : Sect := List.replicate 256 0
theorem zsect_len : zsect.length = 256 := List.length_replicate ..
def D.zero (n : Nat) : D := { vals := List.replicate n [zsect], left := -1, off := false, taken := 0 }
/-- The image's sectors. -/
def chunks : Nat → List UInt8 → List Sect
  | 0, _ => []
  | n + 1, S => S.take 256 :: chunks n (S.drop 256)
def D.ofImage (n : Nat) (S : List UInt8) : D := { vals := (chunks n S).map fun b => [b], left := -1, off := false, taken := 0 }
theorem chunks_len : ∀ (n : Nat) (S : List UInt8), (chunks n S).length = n := by
  intro n
  induction n with
  | zero => intro S; rfl
  | succ n ih => intro S; rw [chunks, List.length_cons, ih]
theorem chunks_flat : ∀ (n : Nat) (S : List UInt8), S.length = 256 * n → (chunks n S).flatten = S ∧ ∀ b ∈ chunks n S, b.length = 256 := by
  intro n
  induction n with
  | zero => intro S h; exact ⟨(List.length_eq_zero_iff.1 (by omega) : S = []) ▸ rfl, fun b hb => by cases hb⟩
  | succ n ih =>
    intro S h
    obtain ⟨h1, h2⟩ := ih (S.drop 256) (by rw [List.length_drop]; omega)
    refine ⟨by rw [chunks, List.flatten_cons, h1, List.take_append_drop], fun b hb => ?_⟩
    rw [chunks] at hb
    rcases List.mem_cons.1 hb with e | e
    · rw [e, List.length_take]; omega
    · exact h2 b e
theorem single_ok {S : List Sect} (h1 : 0 < S.length) (h2 : S.length ≤ 4096) (h3 : ∀ b ∈ S, b.length = 256) : (D.Ok ⟨S.map (fun b => [b]), -1, false, 0⟩) := by
  refine ⟨by simpa using h1, by simpa using h2, fun l hl => ?_, fun l hl b hb => ?_, ⟨by show (-1 : Int) ≤ -1; decide, by show (-1 : Int) ≤ _; decide⟩, ⟨by show _ ≤ (0 : Int); decide, by show (0 : Int) ≤ _; decide⟩⟩
  · obtain ⟨b, _, rfl⟩ := List.mem_map.1 hl
    exact ⟨by simp, by simp⟩
  · obtain ⟨c, hc, rfl⟩ := List.mem_map.1 hl
    simp at hb; subst hb; exact h3 _ hc
theorem single_one {S : List Sect} : ∀ l ∈ S.map (fun b => [b]), l.length = 1 := fun l hl => by
  obtain ⟨b, _, rfl⟩ := List.mem_map.1 hl; rfl
theorem single_sure {S : List Sect} (left : Int) (off : Bool) (taken : Int) : (D.mk (S.map (fun b => [b])) left off taken).sure = S.flatten := by
  rw [D.sure_eq, List.map_map]
  have : (fun l : List Sect => l.headD []) ∘ (fun b : Sect => [b]) = id := by funext b; rfl
  rw [this, List.map_id]
theorem zero_eq (n : Nat) : D.zero n = ⟨(List.replicate n zsect).map (fun b => [b]), -1, false, 0⟩ := by
  unfold D.zero; rw [List.map_replicate]
theorem flat_zero (n : Nat) : bys (List.replicate n zsect).flatten = List.replicate (256 * n) (.int .u8 0) := by
  unfold bys zsect
  rw [List.flatten_replicate_replicate, List.map_replicate, Nat.mul_comm]; rfl
theorem New_calls {w : World} (s : Int) : Calls Tryd.prog 27 #[.int .i64 s] w (Ret fun v w' => (((s < 1 ∨ 4096 < s) → v = .tuple #[.pointer none, .int .i64 2] ∧ Ext w w') ∧
    (¬ (s < 1 ∨ 4096 < s) → ∃ d, v = .tuple #[dp d, .int .i64 0] ∧ Sat w w' [DISK d (D.zero s.toNat) []]))) := by
  have H := Sat.nil (Ext.refl w)
  refine calls_of Tryd.func27 rfl rfl ?_
  refine WP_r rfl ?_
  refine s_val rfl (x_assign (by conv => lhs; whnf)) ?_
  refine s_val rfl (x_assign (by conv => lhs; whnf)) ?_
  refine s_end ?_
  refine WP_seq ?_
  refine WP_r rfl ?_
  refine s_val rfl (x_move (by conv => lhs; whnf)) ?_
  refine s_val rfl (x_lss rfl rfl) ?_
  refine s_dec rfl (x_move rfl) (fun h1 => ?_) (fun h1 => ?_)
  · skip
    refine s_out rfl ?_
    refine s_out rfl ?_
    refine s_val rfl (x_pick_true rfl (by conv => lhs; whnf)) ?_
    refine s_end ?_
    refine WP_cond_true rfl ?_
    refine WP_r rfl ?_
    refine s_val rfl (x_assign (by conv => lhs; whnf)) ?_
    refine s_val rfl (x_assign (by conv => lhs; whnf)) ?_
    refine s_end ?_
    refine WP_ret ?_
    refine thenQ_r ?_
    refine retQ_2 rfl (by conv => lhs; whnf) (by conv => lhs; whnf) ?_
    first
      | exact ⟨fun _ => ⟨rfl, Ext.refl w⟩, fun h => absurd (by omega) h⟩
  · skip
    refine s_val rfl (x_move (by conv => lhs; whnf)) ?_
    refine s_val rfl (x_gtr rfl rfl) ?_
    refine s_val rfl (x_pick_false rfl (by conv => lhs; whnf)) ?_
    refine s_end ?_
    refine WP_cond_dec rfl (fun h2 => ?_) (fun h2 => ?_)
    · skip
      refine WP_r rfl ?_
      refine s_val rfl (x_assign (by conv => lhs; whnf)) ?_
      refine s_val rfl (x_assign (by conv => lhs; whnf)) ?_
      refine s_end ?_
      refine WP_ret ?_
      refine thenQ_r ?_
      refine retQ_2 rfl (by conv => lhs; whnf) (by conv => lhs; whnf) ?_
      first
        | exact ⟨fun _ => ⟨rfl, Ext.refl w⟩, fun h => absurd (by omega) h⟩
    · skip
      refine WP_skip ?_
      refine thenQ_n ?_
      refine WP_r rfl ?_
      refine s_val rfl (x_move (by conv => lhs; whnf)) ?_
      refine s_val rfl (x_muli rfl rfl (by omega)) ?_
      refine s_makeSlice rfl (show SlT Tryd.prog 44 5 1 1 from ⟨by kernel_rfl, by kernel_rfl⟩) (show ZeroT Tryd.prog 5 (.int .u8 0) by unfold ZeroT; kernel_rfl) rfl rfl rfl (by omega) (by omega) (by omega) (by omega) H ?_
      intro b w1 H1
      clear H
      have H := H1.toSlo (i := 0) (n := (s * 256).toNat) (cap := (s * 256).toNat) (sz := 1) (cs := List.replicate (256 * s.toNat) (.int .u8 0)) rfl (Nat.le_refl _) (by simp) (by
        rw [show (s * 256).toNat = 256 * s.toNat by omega]; simp)
      clear H1
      simp only [List.nil_append, List.set_cons_zero] at H
      refine s_makeMap rfl H ?_
      clear H
      intro fb w2 H
      refine s_makeMap rfl H ?_
      clear H
      intro mb w3 H
      refine s_val rfl (x_build (show StT Tryd.prog 83 #[.slice none 0 0, .map none, .map none, .int .i64 0, .bool false, .int .i64 0] #[(0, 1), (1, 1), (2, 1), (3, 1), (4, 1), (5, 1)] from ⟨by kernel_rfl, by kernel_rfl⟩) rfl (show _ = some [_, _, _, _, _, _] from rfl)) ?_
      refine s_box rfl (by conv => lhs; whnf) H ?_
      clear H
      intro d w4 H
      refine s_val rfl (x_assign (by conv => lhs; whnf)) ?_
      refine s_val rfl (x_assign (by conv => lhs; whnf)) ?_
      refine s_end ?_
      refine WP_ret ?_
      refine retQ_2 rfl (by conv => lhs; whnf) (by conv => lhs; whnf) ?_
      refine ⟨fun h => absurd h (by omega), fun _ => ⟨d, rfl, ?_⟩⟩
      have h1 := ((H.imp (i := 1) (q := mapP pairF fb []) rfl (fun g hg => ⟨#[], 0, hg, mapIs_empty _ _⟩)).imp (i := 2) (q := mapP intF mb []) rfl (fun g hg => ⟨#[], 0, hg, mapIs_empty _ _⟩)).re 1 5 [3, 0, 2, 1, 4] (by kernel_rfl)
      have hz : ∀ b ∈ List.replicate s.toNat zsect, b.length = 256 := fun b hb => by rw [(List.mem_replicate.1 hb).2]; exact zsect_len
      have hone : ∀ l ∈ (D.zero s.toNat).vals, l.length = 1 := by rw [zero_eq]; exact single_one
      have hok : (D.zero s.toNat).Ok := by rw [zero_eq]; exact single_ok (by rw [List.length_replicate]; omega) (by rw [List.length_replicate]; omega) hz
      refine DISK.closeL (L := []) hok (many_none hone) (fresh_none hone) (fun _ h => by cases h) (fo := []) (fb := fb) (mb := mb) (a := some ⟨b, 0, none⟩) (cap := (s * 256).toNat) ?_
      unfold dlist
      rw [show (D.zero s.toNat).sure = (List.replicate s.toNat zsect).flatten by rw [zero_eq]; exact single_sure _ _ _, flat_zero, show (D.zero s.toNat).vals.length = s.toNat from List.length_replicate ..]
      rw [show (s * 256).toNat = 256 * s.toNat by omega] at h1 ⊢
      exact h1
end Go.Sl
/- No disk: what a nil pointer and a disk that no call made do. -/
namespace Go.Sl
open Go.Proofs

def NoD (w : World) (p : Value) : Prop := p = .pointer none ∨ ∃ d, p = dp d ∧ w.cell? ⟨d, 0, none⟩ = some (.slice none 0 0)
theorem NoD.heapEq {w w' : World} {p : Value} (h : NoD w p) (e : core w' = core w) : NoD w' p := by
  rcases h with h | ⟨d, h1, h2⟩
  · exact .inl h
  · exact .inr ⟨d, h1, cell_heapEq e h2⟩
theorem NoD.ext {w w' : World} {p : Value} (h : NoD w p) (e : Ext w w') : NoD w' p := by
  rcases h with h | ⟨d, h1, h2⟩
  · exact .inl h
  · exact .inr ⟨d, h1, e.cell h2⟩
theorem is_no {w : World} {p : Value} (h : NoD w p) : Calls Tryd.prog 47 #[p] w (Ret fun v w' => v = .bool false ∧ core w' = core w) := by
  rcases h with rfl | ⟨d, rfl, h2⟩
  · exact is_nil
  · exact is_zero h2
theorem look_no {w : World} {p : Value} (h : NoD w p) (at_ : Int) : Calls Tryd.prog 44 #[p, .int .i64 at_] w (Ret fun v w' => v = .int .i64 1 ∧ core w' = core w) := by
  refine calls_of Tryd.func44 rfl rfl ?_
  refine WP_r rfl ?_
  refine s_val rfl (x_assign (by conv => lhs; whnf)) ?_
  refine s_end ?_
  refine WP_seq ?_
  refine WP_block ?_
  refine WP_r rfl ?_
  refine s_val rfl (x_move (by conv => lhs; whnf)) ?_
  refine s_call rfl (by kernel_rfl) (is_no h) rfl rfl ?_
  rintro v w1 ⟨rfl, e1⟩
  refine s_val rfl (x_not rfl) ?_
  refine s_val rfl (x_assign (by conv => lhs; whnf)) ?_
  refine s_end ?_
  refine WP_cond_true rfl ?_
  refine WP_r rfl ?_
  refine s_val rfl (x_assign (by conv => lhs; whnf)) ?_
  refine s_end ?_
  refine WP_ret ?_
  refine blockQ_r ?_
  refine thenQ_r ?_
  refine retQ_1 rfl (by conv => lhs; whnf) ?_
  exact ⟨rfl, e1⟩
theorem Sectors_no {w : World} {p : Value} (h : NoD w p) : Calls Tryd.prog 31 #[p] w (Ret fun v w' => v = .int .i64 0 ∧ core w' = core w) := by
  refine calls_of Tryd.func31 rfl rfl ?_
  refine WP_r rfl ?_
  refine s_val rfl (x_assign (by conv => lhs; whnf)) ?_
  refine s_end ?_
  refine WP_seq ?_
  refine WP_r rfl ?_
  refine s_val rfl (x_move (by conv => lhs; whnf)) ?_
  refine s_call rfl (by kernel_rfl) (is_no h) rfl rfl ?_
  rintro v w1 ⟨rfl, e1⟩
  refine s_val rfl (x_not rfl) ?_
  refine s_end ?_
  refine WP_cond_true rfl ?_
  refine WP_r rfl ?_
  refine s_val rfl (x_assign (by conv => lhs; whnf)) ?_
  refine s_end ?_
  refine WP_ret ?_
  refine thenQ_r ?_
  refine retQ_1 rfl (by conv => lhs; whnf) ?_
  exact ⟨rfl, e1⟩
theorem Ops_no {w : World} {p : Value} (h : NoD w p) : Calls Tryd.prog 23 #[p] w (Ret fun v w' => v = .int .i64 0 ∧ core w' = core w) := by
  refine calls_of Tryd.func23 rfl rfl ?_
  refine WP_r rfl ?_
  refine s_val rfl (x_assign (by conv => lhs; whnf)) ?_
  refine s_end ?_
  refine WP_seq ?_
  refine WP_r rfl ?_
  refine s_val rfl (x_move (by conv => lhs; whnf)) ?_
  refine s_call rfl (by kernel_rfl) (is_no h) rfl rfl ?_
  rintro v w1 ⟨rfl, e1⟩
  refine s_val rfl (x_not rfl) ?_
  refine s_end ?_
  refine WP_cond_true rfl ?_
  refine WP_r rfl ?_
  refine s_val rfl (x_assign (by conv => lhs; whnf)) ?_
  refine s_end ?_
  refine WP_ret ?_
  refine thenQ_r ?_
  refine retQ_1 rfl (by conv => lhs; whnf) ?_
  exact ⟨rfl, e1⟩
theorem Pending_no {w : World} {p : Value} (h : NoD w p) : Calls Tryd.prog 25 #[p] w (Ret fun v w' => v = .int .i64 0 ∧ core w' = core w) := by
  refine calls_of Tryd.func25 rfl rfl ?_
  refine WP_r rfl ?_
  refine s_val rfl (x_assign (by conv => lhs; whnf)) ?_
  refine s_end ?_
  refine WP_seq ?_
  refine WP_r rfl ?_
  refine s_val rfl (x_move (by conv => lhs; whnf)) ?_
  refine s_call rfl (by kernel_rfl) (is_no h) rfl rfl ?_
  rintro v w1 ⟨rfl, e1⟩
  refine s_val rfl (x_not rfl) ?_
  refine s_end ?_
  refine WP_cond_true rfl ?_
  refine WP_r rfl ?_
  refine s_val rfl (x_assign (by conv => lhs; whnf)) ?_
  refine s_end ?_
  refine WP_ret ?_
  refine thenQ_r ?_
  refine retQ_1 rfl (by conv => lhs; whnf) ?_
  exact ⟨rfl, e1⟩
theorem written_no {w : World} {p : Value} (h : NoD w p) : Calls Tryd.prog 51 #[p] w (Ret fun v w' => v = .map none ∧ core w' = core w) := by
  refine calls_of Tryd.func51 rfl rfl ?_
  refine WP_r rfl ?_
  refine s_val rfl (x_assign (by conv => lhs; whnf)) ?_
  refine s_end ?_
  refine WP_seq ?_
  refine WP_r rfl ?_
  refine s_val rfl (x_move (by conv => lhs; whnf)) ?_
  refine s_call rfl (by kernel_rfl) (is_no h) rfl rfl ?_
  rintro v w1 ⟨rfl, e1⟩
  refine s_val rfl (x_not rfl) ?_
  refine s_end ?_
  refine WP_cond_true rfl ?_
  refine WP_r rfl ?_
  refine s_val rfl (x_assign (by conv => lhs; whnf)) ?_
  refine s_end ?_
  refine WP_ret ?_
  refine thenQ_r ?_
  refine retQ_1 rfl (by conv => lhs; whnf) ?_
  exact ⟨rfl, e1⟩
theorem Sure_no {w : World} {p : Value} (h : NoD w p) : Calls Tryd.prog 50 #[p] w (Ret fun v w' => v = .slice none 0 0 ∧ core w' = core w) := by
  refine calls_of Tryd.func50 rfl rfl ?_
  refine WP_r rfl ?_
  refine s_val rfl (x_assign (by conv => lhs; whnf)) ?_
  refine s_end ?_
  refine WP_seq ?_
  refine WP_r rfl ?_
  refine s_val rfl (x_move (by conv => lhs; whnf)) ?_
  refine s_call rfl (by kernel_rfl) (is_no h) rfl rfl ?_
  rintro v w1 ⟨rfl, e1⟩
  refine s_val rfl (x_not rfl) ?_
  refine s_end ?_
  refine WP_cond_true rfl ?_
  refine WP_r rfl ?_
  refine s_val rfl (x_assign (by conv => lhs; whnf)) ?_
  refine s_end ?_
  refine WP_ret ?_
  refine thenQ_r ?_
  refine retQ_1 rfl (by conv => lhs; whnf) ?_
  exact ⟨rfl, e1⟩
theorem Limit_no {w : World} {p : Value} (h : NoD w p) (n : Int) : Calls Tryd.prog 20 #[p, .int .i64 n] w (Ret fun v w' => v = .tuple #[] ∧ core w' = core w) := by
  refine calls_of Tryd.func20 rfl rfl ?_
  refine WP_r rfl ?_
  refine s_val rfl (x_move (by conv => lhs; whnf)) ?_
  refine s_call rfl (by kernel_rfl) (is_no h) rfl rfl ?_
  rintro v w1 ⟨rfl, e1⟩
  refine s_end ?_
  refine WP_cond_false rfl ?_
  refine WP_skip ?_
  refine retQ_0n rfl ?_
  exact ⟨rfl, e1⟩
theorem Sync_no {w : World} {p : Value} (h : NoD w p) : Calls Tryd.prog 42 #[p] w (Ret fun v w' => v = .int .i64 1 ∧ core w' = core w) := by
  refine calls_of Tryd.func42 rfl rfl ?_
  refine WP_r rfl ?_
  refine s_val rfl (x_assign (by conv => lhs; whnf)) ?_
  refine s_end ?_
  refine WP_seq ?_
  refine WP_block ?_
  refine WP_r rfl ?_
  refine s_val rfl (x_move (by conv => lhs; whnf)) ?_
  refine s_call rfl (by kernel_rfl) (is_no h) rfl rfl ?_
  rintro v w1 ⟨rfl, e1⟩
  refine s_val rfl (x_not rfl) ?_
  refine s_val rfl (x_assign (by conv => lhs; whnf)) ?_
  refine s_end ?_
  refine WP_cond_true rfl ?_
  refine WP_r rfl ?_
  refine s_val rfl (x_assign (by conv => lhs; whnf)) ?_
  refine s_end ?_
  refine WP_ret ?_
  refine blockQ_r ?_
  refine thenQ_r ?_
  refine retQ_1 rfl (by conv => lhs; whnf) ?_
  exact ⟨rfl, e1⟩
theorem Read_no {w : World} {p : Value} (h : NoD w p) (at_ : Int) : Calls Tryd.prog 19 #[p, .int .i64 at_] w (Ret fun v w' => v = .tuple #[.slice none 0 0, .int .i64 1] ∧ core w' = core w) := by
  refine calls_of Tryd.func19 rfl rfl ?_
  refine WP_r rfl ?_
  refine s_val rfl (x_assign (by conv => lhs; whnf)) ?_
  refine s_val rfl (x_assign (by conv => lhs; whnf)) ?_
  refine s_end ?_
  refine WP_r rfl ?_
  refine s_val rfl (x_move (by conv => lhs; whnf)) ?_
  refine s_val rfl (x_move (by conv => lhs; whnf)) ?_
  refine s_call rfl (by kernel_rfl) (look_no h at_) rfl rfl ?_
  rintro v w1 ⟨rfl, e1⟩
  refine s_val rfl (x_assign (by conv => lhs; whnf)) ?_
  refine s_end ?_
  refine WP_seq ?_
  refine WP_block ?_
  refine WP_r rfl ?_
  refine s_val rfl (x_move (by conv => lhs; whnf)) ?_
  refine s_val rfl (x_neq rfl rfl) ?_
  refine s_val rfl (x_assign (by conv => lhs; whnf)) ?_
  refine s_end ?_
  refine WP_cond_true rfl ?_
  refine WP_r rfl ?_
  refine s_val rfl (x_move (by conv => lhs; whnf)) ?_
  refine s_val rfl (x_assign (by conv => lhs; whnf)) ?_
  refine s_val rfl (x_assign (by conv => lhs; whnf)) ?_
  refine s_end ?_
  refine WP_ret ?_
  refine blockQ_r ?_
  refine thenQ_r ?_
  refine retQ_2 rfl (by conv => lhs; whnf) (by conv => lhs; whnf) ?_
  exact ⟨rfl, e1⟩
theorem Write_no {w : World} {p : Value} (h : NoD w p) (at_ : Int) (a : Option Addr) (n cap : Nat) : Calls Tryd.prog 41 #[p, .int .i64 at_, .slice a n cap] w (Ret fun v w' => v = .int .i64 1 ∧ core w' = core w) := by
  refine calls_of Tryd.func41 rfl rfl ?_
  refine WP_r rfl ?_
  refine s_val rfl (x_assign (by conv => lhs; whnf)) ?_
  refine s_end ?_
  refine WP_r rfl ?_
  refine s_val rfl (x_move (by conv => lhs; whnf)) ?_
  refine s_val rfl (x_move (by conv => lhs; whnf)) ?_
  refine s_call rfl (by kernel_rfl) (look_no h at_) rfl rfl ?_
  rintro v w1 ⟨rfl, e1⟩
  refine s_val rfl (x_assign (by conv => lhs; whnf)) ?_
  refine s_end ?_
  refine WP_seq ?_
  refine WP_block ?_
  refine WP_r rfl ?_
  refine s_val rfl (x_move (by conv => lhs; whnf)) ?_
  refine s_val rfl (x_neq rfl rfl) ?_
  refine s_val rfl (x_assign (by conv => lhs; whnf)) ?_
  refine s_end ?_
  refine WP_cond_true rfl ?_
  refine WP_r rfl ?_
  refine s_val rfl (x_move (by conv => lhs; whnf)) ?_
  refine s_val rfl (x_assign (by conv => lhs; whnf)) ?_
  refine s_end ?_
  refine WP_ret ?_
  refine blockQ_r ?_
  refine thenQ_r ?_
  refine retQ_1 rfl (by conv => lhs; whnf) ?_
  exact ⟨rfl, e1⟩
theorem Crash_no {w : World} {p : Value} (h : NoD w p) (a : Option Addr) (n cap : Nat) : Calls Tryd.prog 21 #[p, .slice a n cap] w (Ret fun v w' => v = .int .i64 1 ∧ Ext w w') := by
  have H := Sat.nil (Ext.refl w)
  refine calls_of Tryd.func21 rfl rfl ?_
  refine WP_r rfl ?_
  refine s_box rfl (v := .slice a n cap) (by conv => lhs; whnf) H ?_
  intro pb w1 H1
  have hE := H1.ext
  refine s_val rfl (x_assign (by conv => lhs; whnf)) ?_
  refine s_end ?_
  refine WP_seq ?_
  refine WP_r rfl ?_
  refine s_val rfl (x_move (by conv => lhs; whnf)) ?_
  refine s_call rfl (by kernel_rfl) (is_no (h.ext hE)) rfl rfl ?_
  rintro v w2 ⟨rfl, e2⟩
  replace H1 := H1.heapEq e2
  refine s_val rfl (x_not rfl) ?_
  refine s_end ?_
  refine WP_cond_true rfl ?_
  refine WP_r rfl ?_
  refine s_val rfl (x_assign (by conv => lhs; whnf)) ?_
  refine s_end ?_
  refine WP_ret ?_
  refine thenQ_r ?_
  refine retQ_1 rfl (by conv => lhs; whnf) ?_
  exact ⟨rfl, H1.ext⟩
theorem Image_no {w : World} {p : Value} (h : NoD w p) : Calls Tryd.prog 24 #[p] w (Ret fun v w' => v = .slice none 0 0 ∧ Ext w w') := by
  have H := Sat.nil (Ext.refl w)
  refine calls_of Tryd.func24 rfl rfl ?_
  refine WP_r rfl ?_
  refine s_val rfl (x_assign (by conv => lhs; whnf)) ?_
  refine s_end ?_
  refine WP_r rfl ?_
  refine s_val rfl (x_move (by conv => lhs; whnf)) ?_
  refine s_call rfl (by kernel_rfl) (Sure_no h) rfl rfl ?_
  rintro v w1 ⟨rfl, e1⟩
  replace H := H.heapEq e1
  replace h := h.heapEq e1
  clear e1
  refine s_val rfl (x_assign (by conv => lhs; whnf)) ?_
  refine s_end ?_
  refine WP_seq ?_
  refine WP_r rfl ?_
  refine s_val rfl (x_move (by conv => lhs; whnf)) ?_
  refine s_call rfl (by kernel_rfl) (written_no h) rfl rfl ?_
  rintro v w2 ⟨rfl, e2⟩
  replace H := H.heapEq e2
  clear e2
  refine s_rangeNil rfl (show Tryd.prog.underlying 81 = some (.map 3 3) by kernel_rfl) rfl H ?_
  clear H
  intro r w3 H
  refine s_end ?_
  refine WP_block ?_
  refine WP_loopA (α := Unit) (fun _ => [(3, .slice none 0 0), (10, .pointer (some ⟨r, 0, none⟩))]) (fun _ w' => Sat w w' [blk r (.mapIter none 0 #[] 0)]) (fun _ => 0) () ⟨rfl, rfl, trivial⟩ H ?_
  clear H
  intro _ ρ w4 H
  refine WP_r rfl ?_
  refine s_val rfl (x_nextNil rfl (H.heap (i := 0) rfl)) ?_
  refine s_val rfl (x_extract rfl rfl) ?_
  refine s_end ?_
  refine WP_seq ?_
  refine WP_cond_false rfl ?_
  refine WP_exit ?_
  refine thenQ_e ?_
  refine loopQ_e ?_
  refine blockQ_hit ?_
  refine thenQ_n ?_
  refine WP_r rfl ?_
  refine s_val rfl (x_move (by conv => lhs; whnf)) ?_
  refine s_val rfl (x_assign (by conv => lhs; whnf)) ?_
  refine s_end ?_
  refine WP_ret ?_
  refine retQ_1 rfl (by conv => lhs; whnf) ?_
  exact ⟨rfl, H.ext⟩
end Go.Sl
/- The laws' own small functions: Among, full, SameBytes, Bytes, Ints. -/
namespace Go.Sl
open Go.Proofs

def among (a n : Int) : Int := (a % 18446744073709551616) % n
theorem among_bounds (a n : Int) (h : 1 ≤ n) : 0 ≤ among a n ∧ among a n < n := ⟨Int.emod_nonneg _ (by omega), Int.emod_lt_of_pos _ (by omega)⟩
theorem Among_calls {w : World} (a n : Int) (h : 1 ≤ n) (h2 : n ≤ 9223372036854775807) : Calls Tryd.prog 16 #[.int .i64 a, .int .i64 n] w (Ret fun v w' => v = .int .i64 (among a n) ∧ w' = w) := by
  have hb := among_bounds a n h
  have e1 : IntKind.u64.wrap n = n := IntWalk.u64_in _ ⟨by omega, by omega⟩
  have e2 : IntKind.u64.wrap a = a % 18446744073709551616 := IntKind.wrap_u64 a
  refine calls_of Tryd.func16 rfl rfl ?_
  refine WP_r rfl ?_
  refine s_val rfl (x_assign (by conv => lhs; whnf)) ?_
  refine s_end ?_
  refine WP_r rfl ?_
  refine s_val rfl (x_move (by conv => lhs; whnf)) ?_
  refine s_val rfl (x_convI (q := .i64) (k' := .u64) (by kernel_rfl) (by kernel_rfl) rfl) ?_
  refine s_val rfl (x_move (by conv => lhs; whnf)) ?_
  refine s_val rfl (x_convI (q := .i64) (k' := .u64) (by kernel_rfl) (by kernel_rfl) rfl) ?_
  refine s_val rfl (x_remi rfl rfl ⟨by rw [e2]; omega, by rw [e1]; omega⟩) ?_
  refine s_val rfl (x_convI (q := .u64) (k' := .i64) (by kernel_rfl) (by kernel_rfl) rfl) ?_
  refine s_val rfl (x_assign (by conv => lhs; whnf)) ?_
  refine s_end ?_
  refine WP_ret ?_
  refine retQ_1 rfl (by conv => lhs; whnf) ?_
  exact ⟨by rw [e1, e2]; show Value.int .i64 (IntKind.i64.wrap (among a n)) = _; rw [IntWalk.i64_in _ (by omega)], rfl⟩
def fullS (c : UInt8) : Sect := List.replicate 256 c
theorem fullS_len (c : UInt8) : (fullS c).length = 256 := List.length_replicate ..
def fillS (c : UInt8) (k : Nat) : List Value := List.replicate k (by1 c) ++ List.replicate (256 - k) (.int .u8 0)
theorem fillS_len (c : UInt8) (k : Nat) (h : k ≤ 256) : (fillS c k).length = 256 := by unfold fillS; rw [List.length_append, List.length_replicate, List.length_replicate]; omega
theorem fillS_step (c : UInt8) (k : Nat) (h : k < 256) : (fillS c k).set k (by1 c) = fillS c (k + 1) := by
  unfold fillS
  rw [List.set_append_right _ _ (by rw [List.length_replicate]; omega), List.length_replicate, Nat.sub_self]
  obtain ⟨m, hm⟩ : ∃ m, 256 - k = m + 1 := ⟨255 - k, by omega⟩
  rw [hm, List.replicate_succ, List.set_cons_zero, show 256 - (k + 1) = m by omega, List.replicate_succ', List.append_assoc]; rfl
theorem full_calls {w : World} (c : UInt8) : Calls Tryd.prog 40 #[by1 c] w (Ret fun v w' => ∃ a, v = .slice a 256 256 ∧ Sat w w' [slo 5 1 a 256 256 (bys (fullS c))]) := by
  have H := Sat.nil (Ext.refl w)
  refine calls_of Tryd.func40 rfl rfl ?_
  refine WP_r rfl ?_
  refine s_val rfl (x_assign (by conv => lhs; whnf)) ?_
  refine s_end ?_
  refine WP_r rfl ?_
  refine s_makeSlice (n := 256) (c := 256) rfl (show SlT Tryd.prog 44 5 1 1 from ⟨by kernel_rfl, by kernel_rfl⟩) (show ZeroT Tryd.prog 5 (.int .u8 0) by unfold ZeroT; kernel_rfl) rfl rfl rfl (by omega) (by omega) (by omega) (by omega) H ?_
  intro b w1 H1
  clear H
  have H := H1.toSlo (i := 0) (n := 256) (cap := 256) (sz := 1) (cs := fillS c 0) rfl (Nat.le_refl _) (by rw [List.size_toArray, List.length_replicate]; rfl) (by rw [List.take_of_length_le (by rw [List.length_replicate]; decide)]; rfl)
  clear H1
  simp only [List.nil_append, List.set_cons_zero] at H
  refine s_val rfl (x_assign (by conv => lhs; whnf)) ?_
  refine s_end ?_
  refine WP_seq ?_
  refine WP_r rfl ?_
  refine s_val rfl (x_assign (by conv => lhs; whnf)) ?_
  refine s_end ?_
  refine WP_block ?_
  refine WP_loopA (α := Nat) (fun k => [(0, by1 c), (3, .slice (some ⟨b, 0, none⟩) 256 256), (4, .int .i64 k)]) (fun k w' => k ≤ 256 ∧ Sat w w' [slo 5 1 (some ⟨b, 0, none⟩) 256 256 (fillS c k)]) (fun k => 256 - k) 0 ⟨rfl, rfl, rfl, trivial⟩ ⟨by omega, H⟩ ?_
  clear H
  intro k ρ w4 ⟨hk, H⟩
  refine WP_seq ?_
  refine WP_r rfl ?_
  refine s_val rfl (x_move (by conv => lhs; whnf)) ?_
  refine s_val rfl (x_move (by conv => lhs; whnf)) ?_
  refine s_val rfl (x_lenS (by kernel_rfl) rfl) ?_
  refine s_val rfl (x_lss rfl rfl) ?_
  refine s_end ?_
  refine WP_cond_dec rfl (fun h1 => ?_) (fun h1 => ?_)
  · skip
    refine WP_skip ?_
    refine thenQ_n ?_
    refine WP_seq ?_
    refine WP_block ?_
    have hk2 : k < 256 := by omega
    have HR := H.rd (i := 0) rfl
    refine WP_region rfl ?_
    refine s_val rfl (x_move (by conv => lhs; whnf)) ?_
    refine s_val rfl (x_move (by conv => lhs; whnf)) ?_
    refine s_val rfl (x_move (by conv => lhs; whnf)) ?_
    refine s_val rfl (x_index (show SlT Tryd.prog 44 5 1 1 from ⟨by kernel_rfl, by kernel_rfl⟩) rfl rfl (by omega) (by omega) HR) ?_
    refine s_storeO rfl (by kernel_rfl) rfl (by conv => lhs; whnf) rfl H (i := 0) rfl (by rw [fillS_len _ _ hk]; omega) ?_
    clear H HR
    intro w5 H
    simp only [List.set_cons_zero] at H
    rw [show ((k : Int)).toNat * 1 = k by omega, show (Value.int .u8 c.toNat) = by1 c from rfl, fillS_step c k hk2] at H
    refine s_end ?_
    refine blockQ_n ?_
    refine thenQ_n ?_
    refine WP_region rfl ?_
    refine s_val rfl (x_move (by conv => lhs; whnf)) ?_
    refine s_val rfl (x_addi rfl rfl (by omega)) ?_
    refine s_val rfl (x_assign (by conv => lhs; whnf)) ?_
    refine s_end ?_
    refine loopQ_A (k + 1) (by omega) ⟨rfl, rfl, rfl, trivial⟩ ⟨by omega, H⟩
  · skip
    refine WP_exit ?_
    refine thenQ_e ?_
    refine loopQ_e ?_
    refine blockQ_hit ?_
    refine thenQ_n ?_
    refine WP_r rfl ?_
    refine s_val rfl (x_move (by conv => lhs; whnf)) ?_
    refine s_val rfl (x_assign (by conv => lhs; whnf)) ?_
    refine s_end ?_
    refine WP_ret ?_
    refine retQ_1 rfl (by conv => lhs; whnf) ?_
    have e : k = 256 := by omega
    subst e
    refine ⟨_, rfl, ?_⟩
    have e2 : fillS c 256 = bys (fullS c) := by
      unfold fillS bys fullS
      rw [List.map_replicate, Nat.sub_self, List.replicate_zero, List.append_nil]
    rw [e2] at H
    exact H
theorem rd_get {w : World} {a : Option Addr} {n cap : Nat} {S : List UInt8} (hr : Rd w a n cap 1 (bys S)) (k : Nat) (hk : k < n) : ∃ b, S[k]? = some b ∧ (bys S)[k]? = some (by1 b) := by
  have : S.length = n := by have := hr.1; rw [bys_length] at this; omega
  refine ⟨S[k]'(by omega), List.getElem?_eq_getElem _, ?_⟩
  unfold bys
  rw [List.getElem?_map, List.getElem?_eq_getElem (by omega)]; rfl
theorem SameBytes_calls {w : World} {a a' : Option Addr} {n cap n' cap' : Nat} {S T : List UInt8} (hr : Rd w a n cap 1 (bys S)) (hr' : Rd w a' n' cap' 1 (bys T)) (hb : n ≤ 4611686018427387904) :
    Calls Tryd.prog 26 #[.slice a n cap, .slice a' n' cap'] w (Ret fun v w' => v = .bool (decide (S = T)) ∧ core w' = core w) := by
  have hn : S.length = n := by have := hr.1; rw [bys_length] at this; omega
  have hn' : T.length = n' := by have := hr'.1; rw [bys_length] at this; omega
  refine calls_of Tryd.func26 rfl rfl ?_
  refine WP_r rfl ?_
  refine s_val rfl (x_assign (by conv => lhs; whnf)) ?_
  refine s_end ?_
  refine WP_seq ?_
  refine WP_r rfl ?_
  refine s_val rfl (x_move (by conv => lhs; whnf)) ?_
  refine s_val rfl (x_lenS (by kernel_rfl) rfl) ?_
  refine s_val rfl (x_move (by conv => lhs; whnf)) ?_
  refine s_val rfl (x_lenS (by kernel_rfl) rfl) ?_
  refine s_val rfl (x_neq rfl rfl) ?_
  refine s_end ?_
  refine WP_cond_dec rfl (fun h1 => ?_) (fun h1 => ?_)
  · skip
    refine WP_r rfl ?_
    refine s_val rfl (x_assign (by conv => lhs; whnf)) ?_
    refine s_end ?_
    refine WP_ret ?_
    refine thenQ_r ?_
    refine retQ_1 rfl (by conv => lhs; whnf) ?_
    exact ⟨by rw [decide_eq_false]; intro e; rw [e] at hn; omega, rfl⟩
  · skip
    refine WP_skip ?_
    refine thenQ_n ?_
    refine WP_seq ?_
    refine WP_r rfl ?_
    refine s_val rfl (x_assign (by conv => lhs; whnf)) ?_
    refine s_end ?_
    refine WP_block ?_
    have hnn : n' = n := by omega
    refine WP_loopA (α := Nat) (fun k => [(0, .slice a n cap), (1, .slice a' n' cap'), (5, .int .i64 k)]) (fun k w' => k ≤ n ∧ (∀ j, j < k → S[j]? = T[j]?) ∧ core w' = core w) (fun k => n - k) 0 ⟨rfl, rfl, rfl, trivial⟩ ⟨Nat.zero_le _, fun j hj => absurd hj (Nat.not_lt_zero j), rfl⟩ ?_
    intro k ρ w4 ⟨hk, hS, e4⟩
    refine WP_seq ?_
    refine WP_r rfl ?_
    refine s_val rfl (x_move (by conv => lhs; whnf)) ?_
    refine s_val rfl (x_move (by conv => lhs; whnf)) ?_
    refine s_val rfl (x_lenS (by kernel_rfl) rfl) ?_
    refine s_val rfl (x_lss rfl rfl) ?_
    refine s_end ?_
    refine WP_cond_dec rfl (fun h2 => ?_) (fun h2 => ?_)
    · skip
      refine WP_skip ?_
      refine thenQ_n ?_
      refine WP_seq ?_
      refine WP_block ?_
      have hk2 : k < n := by omega
      obtain ⟨b, hb1, hb2⟩ := rd_get hr k hk2
      obtain ⟨b', hb1', hb2'⟩ := rd_get hr' k (by omega)
      have hel : ∀ j, j = k → (bys S)[j]? = some (by1 b) := fun j h => by rw [h]; exact hb2
      have hel' : ∀ j, j = k → (bys T)[j]? = some (by1 b') := fun j h => by rw [h]; exact hb2'
      refine WP_rd (fun w' => core w' = core w) (.float 0 (.float 1 (.float 2 (.float 3 (.float 4 (.float 5 (.float 6 (.float 7 (.float 8 .done))))))))) (by kernel_rfl) (by kernel_rfl) e4 ?_
      refine r_val rfl rfl (fun w hI => x_move (by conv => lhs; whnf)) ?_
      refine r_val rfl rfl (fun w hI => x_move (by conv => lhs; whnf)) ?_
      refine r_val rfl rfl (fun w hI => x_index (show SlT Tryd.prog 44 5 1 1 from ⟨by kernel_rfl, by kernel_rfl⟩) rfl rfl (by omega) (by omega) (hr.heapEq hI)) ?_
      refine r_val rfl rfl (fun w hI => x_loadR (by kernel_rfl) rfl (hr.heapEq hI) (hel _ (by omega))) ?_
      refine r_val rfl rfl (fun w hI => x_move (by conv => lhs; whnf)) ?_
      refine r_val rfl rfl (fun w hI => x_move (by conv => lhs; whnf)) ?_
      refine r_val rfl rfl (fun w hI => x_index (show SlT Tryd.prog 44 5 1 1 from ⟨by kernel_rfl, by kernel_rfl⟩) rfl rfl (by omega) (by omega) (hr'.heapEq hI)) ?_
      refine r_val rfl rfl (fun w hI => x_loadR (by kernel_rfl) rfl (hr'.heapEq hI) (hel' _ (by omega))) ?_
      refine r_val rfl rfl (fun w hI => x_neq (a := (b.toNat : Int)) (b := (b'.toNat : Int)) rfl rfl) ?_
      refine r_done ?_
      refine WP_cond_dec rfl (fun h3 => ?_) (fun h3 => ?_)
      · skip
        refine WP_r rfl ?_
        refine s_val rfl (x_assign (by conv => lhs; whnf)) ?_
        refine s_end ?_
        refine WP_ret ?_
        refine blockQ_r ?_
        refine thenQ_r ?_
        refine loopQ_r ?_
        refine blockQ_r ?_
        refine thenQ_r ?_
        refine retQ_1 rfl (by conv => lhs; whnf) ?_
        refine ⟨?_, e4⟩
        rw [decide_eq_false]
        intro e
        rw [e, hb1'] at hb1
        injection hb1 with hb1
        exact h3 (by rw [hb1])
      · skip
        refine WP_skip ?_
        refine blockQ_n ?_
        refine thenQ_n ?_
        refine WP_region rfl ?_
        refine s_val rfl (x_move (by conv => lhs; whnf)) ?_
        refine s_val rfl (x_addi rfl rfl (by omega)) ?_
        refine s_val rfl (x_assign (by conv => lhs; whnf)) ?_
        refine s_end ?_
        refine loopQ_A (k + 1) (by omega) ⟨rfl, rfl, rfl, trivial⟩ ⟨by omega, fun j hj => ?_, e4⟩
        by_cases hjk : j = k
        · rw [hjk, hb1, hb1']
          have h5 : (b.toNat : Int) = b'.toNat := Classical.byContradiction h3
          rw [UInt8.toNat_inj.1 (Int.ofNat_inj.1 h5)]
        · exact hS j (by omega)
    · skip
      refine WP_exit ?_
      refine thenQ_e ?_
      refine loopQ_e ?_
      refine blockQ_hit ?_
      refine thenQ_n ?_
      refine WP_r rfl ?_
      refine s_val rfl (x_assign (by conv => lhs; whnf)) ?_
      refine s_end ?_
      refine WP_ret ?_
      refine retQ_1 rfl (by conv => lhs; whnf) ?_
      have e : k = n := by omega
      refine ⟨?_, e4⟩
      rw [decide_eq_true]
      apply List.ext_getElem?
      intro j
      by_cases hj : j < n
      · exact hS j (by omega)
      · rw [List.getElem?_eq_none (by omega), List.getElem?_eq_none (by omega)]
theorem zInt : ∃ z, ZeroT Tryd.prog 3 z ∧ z.cells.size = 1 := ⟨.int .i64 0, by unfold ZeroT; kernel_rfl, rfl⟩
end Go.Sl
