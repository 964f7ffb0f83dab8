/- Several texts of this proof in one. -/
import Derived.Test.YthalgkfafoehkaaDoorGRow
/- The second form: what its bound gives (after the seat's own page on it). -/
namespace Go.Sl
open Go.Proofs Go.ChangeShapes Go.WideShapes Go.RowKit Go.Deep Go.Proofs.YthalgkfafoehkaaDoor
theorem upto_one {H : Type} (d : DataW H) : 1 ≤ Rows.uptoBulk d := by
  cases d with
  | lit l => cases l <;> simp [Rows.uptoBulk]
  | nil => simp [Rows.uptoBulk]
  | ptr d => simp [Rows.uptoBulk]
  | slice elems spare => simp [Rows.uptoBulk]
  | agg parts => simp [Rows.uptoBulk]
  | iface t d => simp [Rows.uptoBulk]
  | map entries => simp [Rows.uptoBulk]
  | held h => simp [Rows.uptoBulk]
theorem upto_all {H : Type} {d : DataW H} {l : List (DataW H)} (h : d ∈ l) : Rows.uptoBulk d ≤ Rows.uptoBulkAll l := by
  induction l with
  | nil => cases h
  | cons x r ih =>
    simp only [Rows.uptoBulkAll]
    cases List.mem_cons.1 h with
    | inl e => subst e; omega
    | inr e => have := ih e; omega
theorem upto_part {H : Type} {d : DataW H} {l : List (DataW H)} (hk : Rows.uptoSmall H l = true) (h : d ∈ l) : Rows.uptoBulk d ≤ 1048576 :=
  Nat.le_trans (upto_all h) (of_decide_eq_true hk)
theorem upto_len {H : Type} (l : List (DataW H)) : l.length ≤ Rows.uptoBulkAll l := by
  induction l with
  | nil => simp [Rows.uptoBulkAll]
  | cons x r ih => have := upto_one x; simp only [Rows.uptoBulkAll, List.length_cons]; omega
set_option maxRecDepth 100000 in
theorem open_listU {H : Type} {enc : TypeId × Value → H} {W : World} {r : Reach} {b0 : Nat} {v : Value} {d : DataW H} {ps : List MemPlace} (hval : Value.okWide Tryd.prog W r b0 22 v) (h : DataW.Trod enc Tryd.prog W 0 (fun _ => true) true 22 v d ps) (hw : Fit Tryd.prog 22 d) (hb : Rows.uptoBulk d ≤ 1048576) :
    ∃ (a : Option Addr) (n cap : Nat) (l : List Int), v = .slice a n cap ∧ n ≤ 1048576 ∧ Rd W a n cap 1 (l.map intF) := by
  obtain ⟨a, n, cap, l, rfl, _, hR⟩ := open_listF hval h hw
  refine ⟨a, n, cap, l, rfl, ?_, hR⟩
  obtain ⟨fuel, hf⟩ := h
  rcases open_slice Tryd.underlying22 hf with ⟨h0, _⟩ | ⟨a', len, cap', m, n', D, Pl, h0, _, _, _, _, hx, _⟩
  · have hc : (Value.slice a n cap).cells.toList = [.slice a n cap] := rfl
    rw [hc] at h0
    simp only [List.cons.injEq, Value.slice.injEq, and_true] at h0
    omega
  · have hc : (Value.slice a n cap).cells.toList = [.slice a n cap] := rfl
    rw [hc] at h0
    simp only [List.cons.injEq, Value.slice.injEq, and_true] at h0
    have hd : d = .slice ((List.range len).map D) ((List.range (m - len)).map fun j => D (len + j)) := congrArg Prod.fst hx
    rw [hd] at hb
    simp only [Rows.uptoBulk] at hb
    have := upto_len ((List.range len).map D)
    rw [List.length_map, List.length_range] at this
    omega
end Go.Sl
