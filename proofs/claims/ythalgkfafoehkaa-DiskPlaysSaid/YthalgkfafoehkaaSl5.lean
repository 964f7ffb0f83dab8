/- Slices: reading, slicing, owned rows, append, copy. Holds for every program. -/
import Derived.Test.YthalgkfafoehkaaSl4
namespace Go.Sl

/-- Where cell k of a slice's array lies. -/
def addrAt (a : Option Addr) (k : Nat) : Value := .pointer (a.map fun p => ⟨p.block, p.off + k, none⟩)
/-- A slice of n elements of sz cells each that reads as these cells. -/
def Rd (w : World) (a : Option Addr) (n cap sz : Nat) (cs : List Value) : Prop :=
  cs.length = n * sz ∧ n ≤ cap ∧ (0 < n → ∃ b off, a = some ⟨b, off, none⟩ ∧ ∀ j u, cs[j]? = some u → w.cell? ⟨b, off + j, none⟩ = some u)
/-- The slice at a' begins at cell k of the slice at a. -/
def SubOf (a' : Option Addr) (n' : Nat) (a : Option Addr) (k : Nat) : Prop := 0 < n' → ∃ b off, a = some ⟨b, off, none⟩ ∧ a' = some ⟨b, off + k, none⟩
/-- A slice that owns its row: nothing, or a block of its own from its start on. -/
def slo (e sz : Nat) (a : Option Addr) (n cap : Nat) (cs : List Value) : HP := fun h =>
  cs.length = n * sz ∧ n ≤ cap ∧ ((a = none ∧ n = 0 ∧ cap = 0) ∨ ∃ b xs, a = some ⟨b, 0, none⟩ ∧ h b = some (.cells xs e (0, 0)) ∧ xs.size = cap * sz ∧ xs.toList.take (n * sz) = cs)

section
variable {P : Program} {ρ : Fr} {w w' w0 : World} {ops : Array Oper} {op : Op} {ty : TypeId} {pos : String} {af : Array Edge} {g : Option (Nat × Bool)} {l : List Oper} {K : Fr → World → Prop} {v : Value} {L : List HP}
variable {a a' : Option Addr} {n n' cap cap' sz e t bytes : Nat} {cs ds : List Value}

theorem Rd.ext (h : Rd w a n cap sz cs) (hx : Ext w w') : Rd w' a n cap sz cs :=
  ⟨h.1, h.2.1, fun h0 => let ⟨b, off, ha, hc⟩ := h.2.2 h0; ⟨b, off, ha, fun j u hj => hx.cell (hc j u hj)⟩⟩
theorem Rd.heapEq (h : Rd w a n cap sz cs) (he : core w' = core w) : Rd w' a n cap sz cs :=
  ⟨h.1, h.2.1, fun h0 => let ⟨b, off, ha, hc⟩ := h.2.2 h0; ⟨b, off, ha, fun j u hj => by have := hc j u hj; unfold World.cell? at *; rw [core_heap he]; exact this⟩⟩
theorem Rd.none (w : World) (a : Option Addr) (cap sz : Nat) : Rd w a 0 cap sz [] := ⟨by simp, Nat.zero_le _, fun h => absurd h (Nat.lt_irrefl 0)⟩
theorem Rd.sub (h : Rd w a n cap sz cs) {k : Nat} (hs : SubOf a' n' a (k * sz)) (hk : k + n' ≤ n) (hc : n' ≤ cap') : Rd w a' n' cap' sz ((cs.drop (k * sz)).take (n' * sz)) := by
  refine ⟨?_, hc, fun h0 => ?_⟩
  · rw [List.length_take, List.length_drop, h.1, ← Nat.sub_mul]
    exact Nat.min_eq_left (Nat.mul_le_mul_right _ (by omega))
  · obtain ⟨b, off, ha, ha'⟩ := hs h0
    obtain ⟨b2, off2, ha2, hcell⟩ := h.2.2 (by omega)
    rw [ha] at ha2
    injection ha2 with e
    injection e with e1 e2
    subst e1 e2
    refine ⟨b, off + k * sz, ha', fun j u hj => ?_⟩
    rw [Nat.add_assoc]
    refine hcell (k * sz + j) u ?_
    rw [List.getElem?_take] at hj
    split at hj
    · rw [List.getElem?_drop] at hj; exact hj
    · cases hj
theorem SubOf.refl (a : Option Addr) (h : 0 < n → ∃ b off, a = some ⟨b, off, Option.none⟩) : SubOf a n a 0 := fun h0 => let ⟨b, off, ha⟩ := h h0; ⟨b, off, ha, ha⟩

theorem Sat.rd {i : Nat} (H : Sat w0 w L) (hi : L[i]? = some (slo e sz a n cap cs)) : Rd w a n cap sz cs := by
  obtain ⟨_, h1, h2, d, s1, s2, ⟨hl, hc, hp⟩, hq⟩ := H.pick hi
  refine ⟨hl, hc, fun h0 => ?_⟩
  rcases hp with ⟨_, hn, _⟩ | ⟨b, xs, ha, hb, hx, ht⟩
  · omega
  · refine ⟨b, 0, ha, fun j u hj => ?_⟩
    have := s1 _ _ hb
    unfold hpOf at this
    split at this
    · cases this
    · rw [cell_of_row w b _ xs e _ this, Nat.zero_add]
      rw [← ht, List.getElem?_take] at hj
      split at hj
      · simpa using hj
      · cases hj

/-! ### Reading -/
theorem x_len {x : Operand} (hu : P.underlying t = some (.slice e)) (hx : ev ρ x = .slice a n cap) : Ev1 P (.call ⟨.builtin .len, #[x], #[t]⟩) ty ρ w (.int .i64 n) w := fun _ _ _ _ => by
  simp [execOp, resolve, hx, invoke, builtin, Builtin.len_, run_und hu, goInt]
theorem x_index {x ix : Operand} {k : IntKind} {j : Int} (ht : SlT P t e sz bytes) (hx : ev ρ x = .slice a n cap) (hi : ev ρ ix = .int k j) (h0 : 0 ≤ j) (h1 : j < n) (hr : Rd w a n cap sz cs) :
    Ev1 P (.indexAddr t x ix) ty ρ w (addrAt a (j.toNat * sz)) w := fun _ _ _ _ => by
  obtain ⟨b, off, ha, _⟩ := hr.2.2 (by omega)
  obtain ⟨i, hi', hs, _⟩ := ht.info
  subst ha
  have e1 : (0 : Int) ≤ j ∧ j < (n : Int) := ⟨h0, h1⟩
  simp [execOp, hx, hi, Instr.indexAt, asIntOf, run_und ht.und, e1, run_sizeOf hi', hs, add_at, addrAt]
theorem x_loadR {x : Operand} {k : Nat} (h1 : oneB P t = true) (hx : ev ρ x = addrAt a k) (hr : Rd w a n cap sz cs) (hk : cs[k]? = some v) : Ev1 P (.load t x) ty ρ w v w := by
  have hlt : k < cs.length := (List.getElem?_eq_some_iff.1 hk).1
  have hn : 0 < n := by
    rcases Nat.eq_zero_or_pos n with q | q
    · rw [hr.1, q, Nat.zero_mul] at hlt; omega
    · exact q
  obtain ⟨b, off, ha, hc⟩ := hr.2.2 hn
  subst ha
  exact x_load h1 hx (hc k v hk)
theorem x_loadRA {x : Operand} {k m : Nat} (h1 : aggB P t m = true) (hx : ev ρ x = addrAt a k) (hr : Rd w a n cap sz cs) (hk : k + m ≤ cs.length) (hm : 0 < m) :
    Ev1 P (.load t x) ty ρ w (.agg ((cs.drop k).take m).toArray) w := by
  have hn : 0 < n := by
    rcases Nat.eq_zero_or_pos n with q | q
    · have := hr.1; rw [q, Nat.zero_mul] at this; omega
    · exact q
  obtain ⟨b, off, ha, hc⟩ := hr.2.2 hn
  subst ha
  refine x_loadA (cs := (cs.drop k).take m) h1 hx (by simp; omega) fun j u hj => ?_
  rw [Nat.add_assoc]
  refine hc (k + j) u ?_
  rw [List.getElem?_take] at hj
  split at hj
  · rw [List.getElem?_drop] at hj; exact hj
  · cases hj
theorem x_fieldR {x : Operand} {s i off k : Nat} (h1 : fieldB P s i off = true) (hx : ev ρ x = addrAt a k) (hr : Rd w a n cap sz cs) (hk : k < cs.length) :
    Ev1 P (.fieldAddr s x i) ty ρ w (addrAt a (k + off)) w := by
  have hn : 0 < n := by
    rcases Nat.eq_zero_or_pos n with q | q
    · rw [hr.1, q, Nat.zero_mul] at hk; omega
    · exact q
  obtain ⟨b, o, ha, hc⟩ := hr.2.2 hn
  subst ha
  have := x_field (ty := ty) (w := w) h1 hx
  rw [Nat.add_assoc] at this
  exact this

/-! ### Slicing -/
theorem sliceBound_in {i : Int} {y : Nat} {c : BoundsCode} {k : IntKind} (h0 : 0 ≤ i) (h1 : i ≤ y) : (Instr.sliceBound (.int k i) y c).run P w = .ok i.toNat w := by
  have e : 0 ≤ i ∧ i ≤ (y : Int) := ⟨h0, h1⟩
  simp [Instr.sliceBound, asIntOf, e]
def cutAt (a : Option Addr) (cap lo sz : Nat) : Option Addr := if cap = lo then a else a.map (·.add (lo * sz))
theorem cutAt_sub {lo hi : Nat} (hr : Rd w a n cap sz cs) (h1 : lo ≤ hi) (h2 : hi ≤ n) : SubOf (cutAt a cap lo sz) (hi - lo) a (lo * sz) := fun h0 => by
  obtain ⟨b, off, ha, _⟩ := hr.2.2 (by omega)
  have := hr.2.1
  refine ⟨b, off, ha, ?_⟩
  unfold cutAt
  rw [if_neg (by omega), ha]
  simp [add_at]
theorem x_slice {x lo hi : Operand} {k1 k2 : IntKind} {i j : Int} (ht : SlT P t e sz bytes) (hx : ev ρ x = .slice a n cap) (hlo : ev ρ lo = .int k1 i) (hhi : ev ρ hi = .int k2 j) (h0 : 0 ≤ i) (h1 : i ≤ j) (h2 : j ≤ n)
    (hc : n ≤ cap) : Ev1 P (.slice t x (some lo) (some hi) none) ty ρ w (.slice (cutAt a cap i.toNat sz) (j.toNat - i.toNat) (cap - i.toNat)) w := fun _ _ _ _ => by
  obtain ⟨q, hq, hs, _⟩ := ht.info
  have e1 := sliceBound_in (P := P) (w := w) (c := .sliceAcap) (k := k2) (i := j) (y := cap) (by omega) (by omega)
  have e2 := sliceBound_in (P := P) (w := w) (c := .sliceB) (k := k1) (i := i) (y := j.toNat) h0 (by omega)
  simp [execOp, hx, hlo, hhi, Instr.sliceAt, run_und ht.und, Instr.slice, Instr.sliceBounds, e1, e2, run_sizeOf hq, hs, cutAt]
theorem x_sliceLo {x lo : Operand} {k1 : IntKind} {i : Int} (ht : SlT P t e sz bytes) (hx : ev ρ x = .slice a n cap) (hlo : ev ρ lo = .int k1 i) (h0 : 0 ≤ i) (h1 : i ≤ n)
    (hc : n ≤ cap) : Ev1 P (.slice t x (some lo) none none) ty ρ w (.slice (cutAt a cap i.toNat sz) (n - i.toNat) (cap - i.toNat)) w := fun _ _ _ _ => by
  obtain ⟨q, hq, hs, _⟩ := ht.info
  have e2 := sliceBound_in (P := P) (w := w) (c := .sliceB) (k := k1) (i := i) (y := n) h0 (by omega)
  simp [execOp, hx, hlo, Instr.sliceAt, run_und ht.und, Instr.slice, Instr.sliceBounds, e2, run_sizeOf hq, hs, cutAt]
theorem x_sliceHi {x hi : Operand} {k2 : IntKind} {j : Int} (ht : SlT P t e sz bytes) (hx : ev ρ x = .slice a n cap) (hhi : ev ρ hi = .int k2 j) (h1 : 0 ≤ j) (h2 : j ≤ n)
    (hc : n ≤ cap) : Ev1 P (.slice t x none (some hi) none) ty ρ w (.slice (cutAt a cap 0 sz) j.toNat cap) w := fun _ _ _ _ => by
  obtain ⟨q, hq, hs, _⟩ := ht.info
  have e1 := sliceBound_in (P := P) (w := w) (c := .sliceAcap) (k := k2) (i := j) (y := cap) (by omega) (by omega)
  simp [execOp, hx, hhi, Instr.sliceAt, run_und ht.und, Instr.slice, Instr.sliceBounds, e1, run_sizeOf hq, hs, cutAt]

/-! ### Owned rows -/
theorem Sat.addNil (e sz : Nat) (H : Sat w0 w L) : Sat w0 w (L ++ [slo e sz none 0 0 []]) := by
  refine H.more ⟨Ext.refl w, ?_⟩
  exact ⟨fun _ => .none, fun _ => .none, fun _ => .inl rfl, (fun _ _ e => by cases e), (fun _ _ e => by cases e), ⟨by simp, Nat.le_refl _, .inl ⟨rfl, rfl, rfl⟩⟩, trivial⟩
/-- A block and its slice. -/
theorem Sat.toSlo {i b : Nat} {xs : Array Value} (H : Sat w0 w L) (hi : L[i]? = some (blk b (.cells xs e (0, 0)))) (hn : n ≤ cap) (hx : xs.size = cap * sz) (hc : xs.toList.take (n * sz) = cs) :
    Sat w0 w (L.set i (slo e sz (some ⟨b, 0, none⟩) n cap cs)) :=
  H.imp hi fun g hg => ⟨by rw [← hc, List.length_take]; simp [hx, Nat.min_eq_left hn], hn, .inr ⟨b, xs, rfl, hg, hx, hc⟩⟩
/-- The row behind an owned slice that has an element. -/
theorem Sat.ofSlo {i : Nat} (H : Sat w0 w L) (hi : L[i]? = some (slo e sz a n cap cs)) (h0 : 0 < n) :
    ∃ b xs, a = some ⟨b, 0, none⟩ ∧ Sat w0 w (L.set i (blk b (.cells xs e (0, 0)))) ∧ xs.size = cap * sz ∧ xs.toList.take (n * sz) = cs ∧ n ≤ cap := by
  obtain ⟨hE, h1, h2, d, s1, s2, ⟨hl, hc, hp⟩, hq⟩ := H.pick hi
  rcases hp with ⟨_, hn, _⟩ | ⟨b, xs, ha, hb, hx, ht⟩
  · omega
  · exact ⟨b, xs, ha, ⟨hE, stars_perm (perm_set (lt_of_pick hi) _) ⟨h1, h2, d, s1, s2, hb, hq⟩⟩, hx, ht, hc⟩
theorem set_set {α : Type _} (l : List α) (i : Nat) (x y : α) : (l.set i x).set i y = l.set i y := by
  induction l generalizing i with
  | nil => rfl
  | cons z l ih => cases i with
    | zero => rfl
    | succ i => simp [ih]
theorem get_set {α : Type _} {l : List α} {i : Nat} {p : α} (h : l[i]? = some p) (x : α) : (l.set i x)[i]? = some x := by
  have := lt_of_pick h
  simp [this]
theorem take_set_of {xs : List Value} {m k : Nat} {u : Value} {cs : List Value} (h : xs.take m = cs) : (xs.set k u).take m = cs.set k u := by
  rw [← h, List.take_set]
theorem s_storeO {x y : Operand} {i k : Nat} (hw : wantedR ops ρ ⟨none, .store t x y, ty, pos, af, g⟩ = true) (h1 : oneB P t = true) (hx : ev ρ x = addrAt a k) (hy : ev ρ y = v) (hv : v.oneCell' = true)
    (H : Sat w0 w L) (hi : L[i]? = some (slo e sz a n cap cs)) (hk : k < cs.length)
    (h : ∀ w', Sat w0 w' (L.set i (slo e sz a n cap (cs.set k v))) → Seq1 P ops l ρ w' K) : Seq1 P ops (⟨none, .store t x y, ty, pos, af, g⟩ :: l) ρ w K := by
  have hlen := (H.rd hi).1
  have hn : 0 < n := by
    rcases Nat.eq_zero_or_pos n with q | q
    · rw [hlen, q, Nat.zero_mul] at hk; omega
    · exact q
  obtain ⟨b, xs, ha, H1, hxs, ht, hc⟩ := H.ofSlo hi hn
  subst ha
  have hlt : k < xs.size := by
    rw [hxs]; rw [hlen] at hk; exact Nat.lt_of_lt_of_le hk (Nat.mul_le_mul_right _ hc)
  have hx' : ev ρ x = .pointer (some ⟨b, k, none⟩) := by rw [hx]; simp [addrAt]
  refine s_store hw h1 hx' hy hv H1 (get_set hi _) (Nat.ble_eq_true_of_le hlt) fun w' H2 => h w' ?_
  rw [set_set] at H2
  have := H2.toSlo (i := i) (n := n) (cap := cap) (sz := sz) (cs := cs.set k v) (get_set hi _) hc (by simpa using hxs) (by
    rw [Array.toList_setIfInBounds]
    exact take_set_of ht)
  rw [set_set] at this
  exact this

/-! ### append -/
theorem run_firstRd {m : Nat} (hr : Rd w a n cap sz cs) (hm : n = m) : (Builtin.firstCells sz m (.slice a n cap)).run P w = .ok cs.toArray w := by
  subst hm
  rcases Nat.eq_zero_or_pos n with q | q
  · subst q
    have : cs = [] := List.length_eq_zero_iff.1 (by rw [hr.1, Nat.zero_mul])
    subst this
    cases a with
    | none => simp [Builtin.firstCells]
    | some b => simp [Builtin.firstCells, loadCells, loadCellsFrom]
  · obtain ⟨b, off, ha, hc⟩ := hr.2.2 q
    subst ha
    exact run_firstCells_some (P := P) w sz n _ n cap cs hr.1 (fun j u hj => by rw [add_at]; exact hc j u hj)
theorem Sat.replaceNew {i : Nat} {p : HP} (H : Sat w0 w L) (hi : L[i]? = some p) (o : Obj) : Sat w0 (w.alloc o) (L.set i (blk w.heap.size o)) := by
  have h1 := (H.drop i).alloc o
  refine h1.perm ?_
  refine List.Perm.trans List.perm_append_comm ?_
  exact perm_set (lt_of_pick hi) _
theorem take_app {α : Type _} (a b c : List α) : (a ++ b ++ c).take (a.length + b.length) = a ++ b := by
  rw [← List.length_append]; exact List.take_left
theorem append_sat {i : Nat} {a2 : Option Addr} {m c2 t2 : Nat} {ats : Array TypeId} (ht : SlT P t e sz bytes) (hz : ∃ z, ZeroT P e z ∧ z.cells.size = sz) (ht2 : (∃ e2, P.underlying t2 = some (.slice e2))) (H : Sat w0 w L) (hi : L[i]? = some (slo e sz a n cap cs))
    (hx : Rd w a2 m c2 sz ds) (h1 : ∀ u ∈ ds, u.oneCell' = true) (h47 : (n + m) * bytes ≤ 140737488355328) (h63 : ((n + m : Nat) : Int) ≤ 9223372036854775807) (hats : ats = #[t, t2]) :
    ∃ a' cap' w', (Builtin.append_ ats ty #[.slice a n cap, .slice a2 m c2]).run P w = .ok (.slice a' (n + m) cap') w' ∧ Sat w0 w' (L.set i (slo e sz a' (n + m) cap' (cs ++ ds))) := by
  subst hats
  obtain ⟨q, hq, hs, hb⟩ := ht.info
  obtain ⟨z, hz, hzs⟩ := hz
  obtain ⟨q', hq', hz⟩ := hz.info
  rw [hq] at hq'; injection hq' with hq'; subst hq'
  obtain ⟨e2, ht2⟩ := ht2
  have hrd := H.rd hi
  by_cases hroom : n + m ≤ cap
  · -- there is room
    rcases Nat.eq_zero_or_pos cap with hc0 | hc0
    · -- nothing at all
      have hn0 : n = 0 := by omega
      have hm0 : m = 0 := by omega
      subst hn0 hm0
      have hcs : cs = [] := List.length_eq_zero_iff.1 (by rw [hrd.1, Nat.zero_mul])
      have hds : ds = [] := List.length_eq_zero_iff.1 (by rw [hx.1, Nat.zero_mul])
      subst hcs hds
      refine ⟨a, cap, w, ?_, ?_⟩
      · have hf := run_firstRd (P := P) (m := 0) hx rfl
        cases a with
        | none => simp [Builtin.append_, run_und ht.und, run_und ht2, run_sizeOf hq, hs, Builtin.lenOf, hf]
        | some p => simp [Builtin.append_, run_und ht.und, run_und ht2, run_sizeOf hq, hs, Builtin.lenOf, hf, storeCells]
      · have : (L.set i (slo e sz a (0 + 0) cap ([] ++ []))) = L := by
          have := List.getElem?_eq_some_iff.1 hi
          obtain ⟨hlt, he⟩ := this
          rw [Nat.add_zero, List.append_nil, ← he]; simp
        rw [this]; exact H
    · obtain ⟨hE, g1, g2, d, s1, s2, ⟨hl, hc, hp⟩, hqq⟩ := H.pick hi
      rcases hp with ⟨_, _, hn⟩ | ⟨b, xs, ha, hbk, hxs, htk⟩
      · omega
      · subst ha
        have H1 : Sat w0 w (L.set i (blk b (.cells xs e (0, 0)))) := ⟨hE, stars_perm (perm_set (lt_of_pick hi) _) ⟨g1, g2, d, s1, s2, hbk, hqq⟩⟩
        have hbw := H1.heap (get_set hi _)
        have hf := run_firstRd (P := P) (m := m) hx rfl
        have hfit : 0 + n * sz + 0 + ds.length ≤ xs.size := by
          rw [hx.1, hxs, Nat.zero_add, Nat.add_zero, ← Nat.add_mul]
          exact Nat.mul_le_mul_right _ hroom
        have hst := run_storeCells_at P b (0 + n * sz) e ds 0 xs w hbw hfit h1
        refine ⟨some ⟨b, 0, none⟩, cap, w.setRow b (xs.toList.take (0 + n * sz + 0) ++ ds ++ xs.toList.drop (0 + n * sz + 0 + ds.length)).toArray, ?_, ?_⟩
        · simp [Builtin.append_, run_und ht.und, run_und ht2, run_sizeOf hq, hs, Builtin.lenOf, hf, hroom, add_at]
          simp at hst
          rw [hst]
          simp
        · have hbut : But w (w.setRow b (xs.toList.take (0 + n * sz + 0) ++ ds ++ xs.toList.drop (0 + n * sz + 0 + ds.length)).toArray) b := by
            refine ⟨by simp [World.setRow], fun k hk => ?_, rfl, rfl, rfl⟩
            simp [World.setRow, Array.getElem?_modify, Ne.symm hk]
          have hnew := setRow_heap w b xs (xs.toList.take (0 + n * sz + 0) ++ ds ++ xs.toList.drop (0 + n * sz + 0 + ds.length)).toArray e (0, 0) hbw
          have H2 := H1.set (get_set hi _) hbut hnew
          rw [set_set] at H2
          have hle : n * sz ≤ xs.toList.length := by simp [hxs]; exact Nat.mul_le_mul_right _ hc
          have H3 := H2.toSlo (i := i) (n := n + m) (cap := cap) (sz := sz) (cs := cs ++ ds) (get_set hi _) hroom (by
              simp [hxs, hx.1, Nat.min_eq_left hc]
              have : n * sz + m * sz ≤ cap * sz := by rw [← Nat.add_mul]; exact Nat.mul_le_mul_right _ hroom
              omega) (by
              simp only [Nat.zero_add, Nat.add_zero]
              rw [htk, Nat.add_mul, ← hl, ← hx.1]
              exact take_app _ _ _)
          rw [set_set] at H3
          exact H3
  · -- a new row
    have hfit : Builtin.nextslicecap (n + m) cap * bytes ≤ 281474976710656 := growslice_fits (by omega) h47
    have e1 : ¬ (281474976710656 < Builtin.nextslicecap (n + m) cap * q.bytes) := by rw [hb]; omega
    have hroom2 : ∀ (x : Nat) (w : World), (askRoom x).run P w = .ok () w := by
      intro x w
      unfold askRoom
      split <;> simp
    have hrd' := hrd.heapEq (w' := w.drew) rfl
    have hx' := hx.heapEq (w' := w.drew) rfl
    have hf := run_firstRd (P := P) (m := m) hx' rfl
    have hfo := run_firstRd (P := P) (m := n) hrd' rfl
    have hcapge := grownCap_ge w (n + m) cap e
    refine ⟨some ⟨w.heap.size, 0, none⟩, grownCap w (n + m) cap e, w.drew.alloc (.cells (cs ++ ds ++ (Builtin.zeroCells z.cells (grownCap w (n + m) cap e - (n + m))).toList).toArray e), ?_, ?_⟩
    · have e2 : ¬ (9223372036854775807 < ((n : Int) + (m : Int))) := by omega
      simp [Builtin.append_, run_und ht.und, run_und ht2, run_sizeOf hq, hs, Builtin.lenOf, hroom, run_info hq, e1, e2, Question.forced, hroom2, hfo, hf, zeroValue, hz, run_newRow, grownCap]
      congr 2
      apply Array.ext'
      simp [List.append_assoc]
    · have H1 := (H.heapEq (w' := w.drew) rfl).replaceNew hi (.cells (cs ++ ds ++ (Builtin.zeroCells z.cells (grownCap w (n + m) cap e - (n + m))).toList).toArray e)
      have H2 := H1.toSlo (i := i) (n := n + m) (cap := grownCap w (n + m) cap e) (sz := sz) (cs := cs ++ ds) (get_set hi _) hcapge (by
          simp only [List.size_toArray, List.length_append, Array.length_toList, size_zeroCells, hrd.1, hx.1, hzs]
          rw [← Nat.add_mul, ← Nat.add_mul, Nat.add_sub_cancel' hcapge]) (by
          rw [Nat.add_mul, ← hrd.1, ← hx.1]
          exact take_app _ _ _)
      rw [set_set] at H2
      exact H2
theorem s_append {x y : Operand} {i d : Nat} {a2 : Option Addr} {m c2 t2 : Nat} (hw : wantedR ops ρ ⟨some d, .call ⟨.builtin .append, #[x, y], #[t, t2]⟩, ty, pos, af, g⟩ = true) (ht : SlT P t e sz bytes) (hz : ∃ z, ZeroT P e z ∧ z.cells.size = sz) (ht2 : ∃ e2, P.underlying t2 = some (.slice e2))
    (hx : ev ρ x = .slice a n cap) (hy : ev ρ y = .slice a2 m c2) (H : Sat w0 w L) (hi : L[i]? = some (slo e sz a n cap cs)) (hr : Rd w a2 m c2 sz ds) (h1 : ∀ u ∈ ds, u.oneCell' = true)
    (h47 : (n + m) * bytes ≤ 140737488355328) (h63 : ((n + m : Nat) : Int) ≤ 9223372036854775807)
    (h : ∀ a' cap' w', Sat w0 w' (L.set i (slo e sz a' (n + m) cap' (cs ++ ds))) → Seq1 P ops l (upd ρ d (.slice a' (n + m) cap')) w' K) :
    Seq1 P ops (⟨some d, .call ⟨.builtin .append, #[x, y], #[t, t2]⟩, ty, pos, af, g⟩ :: l) ρ w K := by
  obtain ⟨a', cap', w', hrun, H'⟩ := append_sat (ty := ty) ht hz ht2 H hi hr h1 h47 h63 rfl
  refine s_val hw (fun _ _ _ _ => ?_) (h a' cap' w' H')
  simp [execOp, resolve, hx, hy, invoke, builtin, hrun]
end
end Go.Sl
