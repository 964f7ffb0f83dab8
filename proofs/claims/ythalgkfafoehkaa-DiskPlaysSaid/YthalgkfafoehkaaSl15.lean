/- Arguments: a slice as it is handed in. Holds for every program. -/
import Derived.Test.YthalgkfafoehkaaSl14
import Derived.Deep.Slices
import Derived.Deep.Fields
namespace Go.Sl
open Go.ChangeShapes Go.WideShapes Go.RowKit Go.Deep
theorem flat_get {α : Type} {sz : Nat} (hsz : 0 < sz) : ∀ (rows : List (List α)), (∀ r ∈ rows, r.length = sz) → ∀ q, rows.flatten[q]? = (rows[q / sz]?).bind fun r => r[q % sz]? := by
  intro rows
  induction rows with
  | nil => intro _ q; simp
  | cons r rows ih =>
    intro h q
    have hr := h r (List.mem_cons_self ..)
    rw [List.flatten_cons]
    by_cases hq : q < sz
    · rw [List.getElem?_append_left (by omega), Nat.div_eq_of_lt hq, Nat.mod_eq_of_lt hq]; rfl
    · rw [List.getElem?_append_right (by omega), hr, ih (fun x hx => h x (List.mem_cons_of_mem _ hx))]
      obtain ⟨p, rfl⟩ : ∃ p, q = p + sz := ⟨q - sz, by omega⟩
      rw [Nat.add_sub_cancel, Nat.add_div_right _ hsz, Nat.add_mod_right]; rfl
theorem flat_len {α : Type} {sz : Nat} : ∀ (rows : List (List α)), (∀ r ∈ rows, r.length = sz) → rows.flatten.length = rows.length * sz := by
  intro rows
  induction rows with
  | nil => intro _; simp
  | cons r rows ih =>
    intro h
    rw [List.flatten_cons, List.length_append, ih (fun x hx => h x (List.mem_cons_of_mem _ hx)), h r (List.mem_cons_self ..), List.length_cons, Nat.succ_mul, Nat.add_comm]
theorem cell_spot {w : World} {a : Addr} {v : Value} (h : w.cell? a = some v) : a = ⟨a.block, a.off, none⟩ := by
  unfold World.cell? at h
  split at h
  · split at h
    · cases h
    · rename_i hs
      cases a with
      | mk b o s => cases s with
        | none => rfl
        | some x => exact absurd rfl hs
  · cases h
theorem add_off {b off n : Nat} : (⟨b, off, none⟩ : Addr).add n = ⟨b, off + n, none⟩ := by
  unfold Addr.add
  split
  · rename_i h; rw [h, Nat.add_zero]
  · rfl
section
variable {H : Type} {enc : TypeId × Value → H} {P : Program} {W : World} {t e : TypeId} {sz : Nat}
theorem open_row {fuel : Nat} {cs : List Value} {x : DataW H × List MemPlace} (ht : P.underlying t = some (.slice e)) (hsz : P.cellsOf e = sz) (h0 : 0 < sz) (h : DataW.trod enc P W 0 (fun _ => true) true fuel t cs = some x) :
    ∃ (a : Option Addr) (n cap : Nat) (rows : List (List Value)), cs = [.slice a n cap] ∧ cap ≤ maxLen ∧ rows.length = n ∧ (∀ r ∈ rows, r.length = sz) ∧ Rd W a n cap sz rows.flatten ∧
      ∀ r ∈ rows, ∃ (fuel : Nat) (x : DataW H × List MemPlace), DataW.trod enc P W 0 (fun _ => true) true fuel e r = some x := by
  rcases open_slice ht h with ⟨rfl, rfl⟩ | ⟨a, len, cap, m, n, D, Pl, rfl, hb, hl, hm, hmm, hx, hi⟩
  · exact ⟨none, 0, 0, [], rfl, Nat.zero_le _, rfl, (fun r hr => by cases hr), ⟨by simp, Nat.le_refl _, fun h => absurd h (Nat.lt_irrefl 0)⟩, fun r hr => by cases hr⟩
  · have hm' : m = cap := by simpa using hmm
    subst hm'
    have hall : ∀ i, ∃ cs' : List Value, i < m → W.cells? 0 (a.add (i * sz)) sz = some cs' ∧ DataW.trod enc P W 0 (fun _ => true) true n e cs' = some (D i, Pl i) := fun i => by
      by_cases hlt : i < m
      · obtain ⟨c, h1, h2⟩ := hi i hlt
        rw [hsz] at h1
        exact ⟨c, fun _ => ⟨h1, h2⟩⟩
      · exact ⟨[], fun h => absurd h hlt⟩
    obtain ⟨f, hf⟩ := Classical.axiomOfChoice hall
    have hrl : ∀ r ∈ (List.range len).map f, r.length = sz := fun r hr => by
      obtain ⟨i, hi, rfl⟩ := List.mem_map.1 hr
      exact (World.cells?_some (hf i (by have := List.mem_range.1 hi; omega)).1).2.1
    refine ⟨some a, len, m, (List.range len).map f, rfl, hm, by simp, hrl, ⟨?_, hl, fun hn => ?_⟩, fun r hr => ?_⟩
    · rw [flat_len _ hrl]; simp
    · have h00 := (World.cells?_some (hf 0 (by omega)).1).2.2 0 h0
      have hl0 := (World.cells?_some (hf 0 (by omega)).1).2.1
      rw [Nat.zero_mul] at h00
      have ha := cell_spot (w := W) (a := a) (v := (f 0)[0]'(by omega)) (by
        have e1 : (a.add 0).add 0 = a := rfl
        rw [e1] at h00; rw [h00]; exact List.getElem?_eq_getElem _)
      refine ⟨a.block, a.off, congrArg some ha, fun q u hq => ?_⟩
      rw [flat_get h0 _ hrl] at hq
      have hql : q / sz < len := by
        rcases Nat.lt_or_ge (q / sz) len with x | x
        · exact x
        · rw [List.getElem?_eq_none (by simpa using x)] at hq; cases hq
      have hqq : ((List.range len).map f)[q / sz]? = some (f (q / sz)) := by
        rw [List.getElem?_map, List.getElem?_range hql]; rfl
      rw [hqq] at hq
      have hc := (World.cells?_some (hf (q / sz) (by omega)).1).2.2 (q % sz) (Nat.mod_lt _ h0)
      rw [ha, add_off, add_off] at hc
      have hd := Nat.div_add_mod q sz
      rw [Nat.mul_comm] at hd
      rw [Nat.add_assoc, hd] at hc
      rw [hc]; exact hq
    · obtain ⟨i, hi, rfl⟩ := List.mem_map.1 hr
      exact ⟨n, _, (hf i (by have := List.mem_range.1 hi; omega)).2⟩
theorem Ext.trod {W' : World} {v : Value} {d : DataW H} {ps : List MemPlace} (hl : laidOutB P = true) (hr : P.readableRec t = true) (hrow : t < P.types.size) (h : DataW.Trod enc P W 0 (fun _ => true) true t v d ps) (hE : Ext W W')
    (hlt : ∀ x ∈ ps, x.block < W.heap.size) {sp : Nat → Bool} (hsp : ∀ x ∈ ps, sp x.block = true) : DataW.Trod enc P W' 0 sp true t v d ps :=
  WideElems.Trod_stays hl hr hrow h (fun x hx => hE.below.same (hlt x hx)) hsp
end
end Go.Sl
