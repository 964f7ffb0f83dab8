/- Loops with the frame's slots named. Holds for every program. -/
import Derived.Test.YthalgkfafoehkaaSl10
namespace Go.Sl
section
variable {P : Program} {n : Nat} {ρ : Fr} {w : World} {Q : Exit → Fr → World → Prop} {c : Code}
/-- The loop's state: what the slots hold, and what is so of the world. -/
def LoopI {α : Type} (live : α → List (Nat × Value)) (I : α → World → Prop) (m : α → Nat) : Nat → Fr → World → Prop := fun j ρ w => ∃ x, m x = j ∧ Slots ρ (live x) ∧ I x w
theorem WP_loopA {α : Type} (live : α → List (Nat × Value)) (I : α → World → Prop) (m : α → Nat) (x0 : α) (hs : Slots ρ (live x0)) (hI : I x0 w)
    (round : ∀ x ρ w, I x w → WP P n c (upds (live x) ρ) w (loopQ (LoopI live I m) (m x) Q)) : WP P n (.loop c) ρ w Q := by
  refine WP_loop (LoopI live I m) (m x0) ⟨x0, rfl, hs, hI⟩ ?_
  rintro k ρ w ⟨x, rfl, hs, hI⟩
  have h1 := round x ρ w hI
  rw [hs.upds] at h1
  exact h1
theorem loopQ_A {α : Type} {live : α → List (Nat × Value)} {I : α → World → Prop} {m : α → Nat} {k : Nat} (x : α) (hm : m x < k) (hs : Slots ρ (live x)) (hI : I x w) : loopQ (LoopI live I m) k Q .normal ρ w :=
  ⟨m x, hm, x, rfl, hs, hI⟩
end
theorem x_makeFuncA {P : Program} {ρ : Fr} {w : World} {f : Fn} {xs ys : Array Operand} {l1 l2 : List Value} {ty : TypeId} (h1 : xs.toList.map (ev ρ) = l1) (h2 : ys.toList.map (ev ρ) = l2) :
    Ev1 P (.makeFunc f xs ys) ty ρ w (.func f l1.toArray l2.toArray) w := by
  have h := x_makeFunc (P := P) (ρ := ρ) (w := w) (fn := f) (first := xs) (cap := ys) (ty := ty)
  have e1 : xs.map (ev ρ) = l1.toArray := by rw [← h1, ← Array.toList_map, Array.toArray_toList]
  have e2 : ys.map (ev ρ) = l2.toArray := by rw [← h2, ← Array.toList_map, Array.toArray_toList]
  rw [e1, e2] at h
  exact h
theorem nodup_le : ∀ (n : Nat) (l : List Nat), l.Nodup → (∀ k ∈ l, k < n) → l.length ≤ n := by
  intro n
  induction n with
  | zero => intro l _ h; cases l with
    | nil => exact Nat.le_refl _
    | cons k l => exact absurd (h k (List.mem_cons_self ..)) (Nat.not_lt_zero k)
  | succ n ih =>
    intro l hd h
    have h1 := ih (l.erase n) (hd.erase n) fun k hk => by
      have h2 := (hd.mem_erase_iff).1 hk
      have := h k h2.2
      omega
    rw [List.length_erase] at h1
    split at h1 <;> omega
end Go.Sl
