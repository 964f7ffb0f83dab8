/- Calls in a row: what a disk without a limit, and one with a limit, is behind them. -/
import Derived.Test.YthalgkfafoehkaaDisk13
namespace Go.Sl
open Go.Proofs

/-- An act as it lies in memory. -/
structure ActV where
  do_ : Int
  at_ : Int
  n : Int
  fill : UInt8
  pa : Option Addr
  pn : Nat
  pc : Nat
def ActV.cells (a : ActV) : List Value := [.int .i64 a.do_, .int .i64 a.at_, .int .i64 a.n, .int .u8 a.fill.toNat, .slice a.pa a.pn a.pc]
def actCells (l : List ActV) : List Value := l.flatMap ActV.cells
theorem actCells_get : ∀ (l : List ActV) (k : Nat) (a : ActV) (j : Nat), l[k]? = some a → j < 5 → (actCells l)[k * 5 + j]? = a.cells[j]? := by
  intro l
  induction l with
  | nil => intro k a j h; simp at h
  | cons b l ih =>
    intro k a j h hj
    have e : actCells (b :: l) = b.cells ++ actCells l := rfl
    rw [e]
    cases k with
    | zero =>
      simp at h; subst h
      rw [Nat.zero_mul, Nat.zero_add, List.getElem?_append_left (by show j < 5; exact hj)]
    | succ k =>
      rw [List.getElem?_append_right (by show 5 ≤ _; omega), show (k + 1) * 5 + j - b.cells.length = k * 5 + j by show (k + 1) * 5 + j - 5 = _; omega]
      exact ih k a j (by simpa using h) hj
theorem actCells_len (l : List ActV) : (actCells l).length = l.length * 5 := by
  induction l with
  | nil => rfl
  | cons b l ih =>
    have e : actCells (b :: l) = b.cells ++ actCells l := rfl
    rw [e, List.length_append, ih, List.length_cons]
    show 5 + _ = _
    omega
def ActV.op (s : Nat) (a : ActV) : Option (Nat × UInt8) := if among a.do_ 4 = 3 then none else some ((among a.at_ s).toNat, a.fill)
def D.act (x : D) (o : Option (Nat × UInt8)) : Int × D := match o with
  | none => x.sync
  | some (i, c) => x.write i (fullS c)
def actV (v : List (List Sect)) : Option (Nat × UInt8) → List (List Sect)
  | none => (settleL (fun (_ : Unit) m => (m, ())) v ()).1
  | some (i, c) => v.set i (v.getD i [] ++ [fullS c])
theorem act_on {x : D} (h1 : x.off = false) (h2 : x.left ≠ 0) {o : Option (Nat × UInt8)} (ho : ∀ i c, o = some (i, c) → i < x.vals.length) :
    x.act o = (0, ⟨actV x.vals o, max (-1) (x.left - 1), false, IntKind.i64.wrap (x.taken + 1)⟩) := by
  have ht : x.take = (true, { x with left := max (-1) (x.left - 1), taken := IntKind.i64.wrap (x.taken + 1) }) := by
    unfold D.take; rw [if_neg (by rw [h1]; simp [h2])]
  cases o with
  | none =>
    show x.sync = _
    unfold D.sync
    rw [ht, if_pos rfl]
    show (0, D.settle _ _ _) = _
    unfold D.settle actV
    rw [h1]
  | some p =>
    obtain ⟨i, c⟩ := p
    have hi := ho i c rfl
    show x.write i (fullS c) = _
    unfold D.write
    rw [if_neg (by omega), if_neg (by rw [fullS_len]; omega), ht, if_neg (by simp)]
    unfold D.put actV
    simp only [Int.toNat_natCast, h1]
theorem act_off {x : D} (h : x.off = true ∨ x.left = 0) {o : Option (Nat × UInt8)} (ho : ∀ i c, o = some (i, c) → i < x.vals.length) : x.act o = (10, { x with off := true }) := by
  have ht : x.take = (false, { x with off := true }) := by unfold D.take; rw [if_pos h]
  cases o with
  | none =>
    show x.sync = _
    unfold D.sync
    rw [ht, if_neg (by simp)]
  | some p =>
    obtain ⟨i, c⟩ := p
    have hi := ho i c rfl
    show x.write i (fullS c) = _
    unfold D.write
    rw [if_neg (by omega), if_neg (by rw [fullS_len]; omega), ht, if_pos rfl]
theorem actV_len (v : List (List Sect)) (o : Option (Nat × UInt8)) : (actV v o).length = v.length := by
  cases o with
  | none => exact settleL_length _ _ _
  | some p => simp [actV]
theorem op_lt {s : Nat} (hs : 0 < s) (a : ActV) : ∀ i c, a.op s = some (i, c) → i < s := fun i c h => by
  unfold ActV.op at h
  split at h
  · cases h
  · simp only [Option.some.injEq, Prod.mk.injEq] at h
    have := among_bounds a.at_ s (by omega)
    omega
def SmallV (B : Nat) (v : List (List Sect)) : Prop := ∀ l ∈ v, l.length ≤ B
theorem actV_small {B : Nat} (hB : 1 ≤ B) {v : List (List Sect)} (h : SmallV B v) (o : Option (Nat × UInt8)) : SmallV (B + 1) (actV v o) := by
  cases o with
  | none =>
    have key : ∀ (v : List (List Sect)), SmallV B v → ∀ l ∈ (settleL (fun (_ : Unit) m => (m, ())) v ()).1, l.length ≤ B := by
      intro v
      induction v with
      | nil => intro _ l hl; cases hl
      | cons u v ih =>
        intro h l hl
        unfold settleL at hl
        split at hl
        · rcases List.mem_cons.1 hl with e | e
          · subst e; exact hB
          · exact ih (fun l hl => h l (List.mem_cons_of_mem _ hl)) l e
        · rcases List.mem_cons.1 hl with e | e
          · subst e; exact h _ (List.mem_cons_self ..)
          · exact ih (fun l hl => h l (List.mem_cons_of_mem _ hl)) l e
    intro l hl
    have := key v h l hl
    omega
  | some p =>
    obtain ⟨i, c⟩ := p
    intro l hl
    rcases List.mem_or_eq_of_mem_set hl with e | e
    · have := h l e; omega
    · rw [e, List.length_append, List.length_singleton]
      rw [List.getD_eq_getElem?_getD]
      cases hv : v[i]? with
      | none => simp
      | some u =>
        have := h u (List.mem_of_getElem? hv)
        simp only [Option.getD_some]; omega
/-- The values behind k acts. -/
def runV (s : Nat) : List ActV → List (List Sect) → List (List Sect)
  | [], v => v
  | a :: l, v => runV s l (actV v (a.op s))
theorem runV_snoc (s : Nat) : ∀ (l : List ActV) (a : ActV) (v : List (List Sect)), runV s (l ++ [a]) v = actV (runV s l v) (a.op s) := by
  intro l
  induction l with
  | nil => intro a v; rfl
  | cons b l ih => intro a v; exact ih a _
theorem runV_len (s : Nat) : ∀ (l : List ActV) (v : List (List Sect)), (runV s l v).length = v.length := by
  intro l
  induction l with
  | nil => intro v; rfl
  | cons b l ih => intro v; rw [runV, ih, actV_len]
theorem runV_small (s : Nat) : ∀ (l : List ActV) (B : Nat) (v : List (List Sect)), 1 ≤ B → SmallV B v → SmallV (B + l.length) (runV s l v) := by
  intro l
  induction l with
  | nil => intro B v _ h; exact h
  | cons b l ih =>
    intro B v hB h
    have := ih (B + 1) _ (by omega) (actV_small hB h (b.op s))
    rw [runV, List.length_cons, show B + (l.length + 1) = B + 1 + l.length by omega]
    exact this
/-- A disk without a limit behind k acts; one with a limit. -/
def plainD (v : List (List Sect)) (k : Nat) : D := ⟨v, -1, false, k⟩
def limD (s : Nat) (v0 : List (List Sect)) (acts : List ActV) (n k : Nat) : D := if k ≤ n then ⟨runV s (acts.take k) v0, ((n - k : Nat) : Int), false, k⟩ else ⟨runV s (acts.take n) v0, 0, true, n⟩
theorem limD_vals (s : Nat) (v0 : List (List Sect)) (acts : List ActV) (n k : Nat) : (limD s v0 acts n k).vals = runV s (acts.take (min n k)) v0 := by
  unfold limD
  split
  · rw [Nat.min_eq_right ‹_›]
  · rw [Nat.min_eq_left (by omega)]
theorem plain_step {s : Nat} (hs : 0 < s) {v : List (List Sect)} (hv : v.length = s) (a : ActV) (k : Nat) (hk : k < 1000) : (plainD v k).act (a.op s) = (0, plainD (actV v (a.op s)) (k + 1)) := by
  rw [act_on rfl (by show (-1 : Int) ≠ 0; decide) (fun i c h => by have := op_lt hs a i c h; show i < v.length; omega)]
  show (0, D.mk _ _ _ _) = _
  unfold plainD
  rw [IntWalk.i64_in _ (by show -9223372036854775808 ≤ (k : Int) + 1 ∧ (k : Int) + 1 ≤ 9223372036854775807; omega)]
  rfl
theorem lim_step {s : Nat} (hs : 0 < s) {v0 : List (List Sect)} (hv : v0.length = s) {acts : List ActV} {n k : Nat} (hn : n < 1000) (hk : k < 1000) {a : ActV} (ha : acts[k]? = some a) :
    (limD s v0 acts n k).act (a.op s) = (if k < n then 0 else 10, limD s v0 acts n (k + 1)) := by
  have hl : ∀ m, (limD s v0 acts n m).vals.length = s := fun m => by rw [limD_vals, runV_len, hv]
  have ho : ∀ i c, a.op s = some (i, c) → i < (limD s v0 acts n k).vals.length := fun i c h => by rw [hl]; exact op_lt hs a i c h
  by_cases h : k < n
  · have e1 : limD s v0 acts n k = ⟨runV s (acts.take k) v0, ((n - k : Nat) : Int), false, k⟩ := by unfold limD; rw [if_pos (by omega)]
    have e2 : limD s v0 acts n (k + 1) = ⟨runV s (acts.take (k + 1)) v0, ((n - (k + 1) : Nat) : Int), false, (k + 1 : Nat)⟩ := by unfold limD; rw [if_pos (by omega)]
    rw [act_on (by rw [e1]) (by rw [e1]; show ((n - k : Nat) : Int) ≠ 0; omega) ho, if_pos h, e2, e1]
    show (0, D.mk (actV (runV s (acts.take k) v0) _) _ _ _) = _
    rw [List.take_add_one, ha]
    show _ = (0, D.mk (runV s (acts.take k ++ [a]) v0) _ _ _)
    rw [runV_snoc, IntWalk.i64_in _ (by show -9223372036854775808 ≤ (k : Int) + 1 ∧ (k : Int) + 1 ≤ 9223372036854775807; omega)]
    congr 2
    show max (-1) (((n - k : Nat) : Int) - 1) = _
    omega
  · rw [if_neg h]
    have e2 : limD s v0 acts n (k + 1) = ⟨runV s (acts.take n) v0, 0, true, n⟩ := by unfold limD; rw [if_neg (by omega)]
    by_cases hk2 : k ≤ n
    · have hkn : k = n := by omega
      have e1 : limD s v0 acts n k = ⟨runV s (acts.take n) v0, 0, false, n⟩ := by unfold limD; rw [if_pos hk2, hkn, Nat.sub_self]; rfl
      rw [act_off (by rw [e1]; right; rfl) ho, e1, e2]
    · have e1 : limD s v0 acts n k = ⟨runV s (acts.take n) v0, 0, true, n⟩ := by unfold limD; rw [if_neg hk2]
      rw [act_off (by rw [e1]; left; rfl) ho, e1, e2]
end Go.Sl
