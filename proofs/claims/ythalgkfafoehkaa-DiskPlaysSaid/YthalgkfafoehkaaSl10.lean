/- A map of whole numbers as the kit's own reader has it; sorted lists. Holds for every program. -/
import Derived.Test.YthalgkfafoehkaaSl9
import Derived.Shelf.SlIterI.Nil
namespace Go.Sl
open Go.Maps

def encI (n : Int) : Value := .int .i64 n
theorem perm_pair {l m : List Int} (h : l.Perm m) (hn : m.Nodup) : (l.mergeSort fun x y => decide (x ≤ y)).Pairwise (· < ·) ∧ ∀ k, k ∈ (l.mergeSort fun x y => decide (x ≤ y)) ↔ k ∈ m := by
  have hp := (List.mergeSort_perm l fun x y => decide (x ≤ y)).trans h
  have hs : (l.mergeSort fun x y => decide (x ≤ y)).Pairwise fun a b => decide (a ≤ b) = true :=
    List.pairwise_mergeSort (fun a b c h1 h2 => by simp only [decide_eq_true_eq] at *; exact Int.le_trans h1 h2) (fun a b => by simp only [Bool.or_eq_true, decide_eq_true_eq]; exact Int.le_total a b) l
  have hd : (l.mergeSort fun x y => decide (x ≤ y)).Nodup := (hp.nodup_iff).2 hn
  refine ⟨?_, fun k => hp.mem_iff⟩
  refine (hs.and hd).imp ?_
  intro a b ⟨h1, h2⟩
  simp only [decide_eq_true_eq] at h1
  omega

theorem owns_of_mapAt {P : Program} {K : TypeId} (hk : P.underlying K = some (.int .i64)) {w : World} {b : Nat} {m : List (Int × Value)} (h : MapAt w encI b m) (hwf : ∀ p ∈ m, (Lit.int .i64 p.1).wf = true) (hl : m.length ≤ maxLen) :
    ∃ D0 : DataW Unit, w.ownsMap P K (fun _ => some (.nil, [])) b m.length D0 ∧ (intKeys D0).Perm (m.map (·.1)) ∧ Maps.size D0 = m.length := by
  obtain ⟨es, clock, hb, hm⟩ := h
  have hlen : es.size = m.length := by
    have := congrArg List.length hm.keys
    simpa using this
  have hkey : ∀ x ∈ es.toList, ∃ n, x.key = encI n ∧ (Lit.int .i64 n).wf = true := fun x hx => by
    have h1 : x.key ∈ es.toList.map (·.key) := List.mem_map.2 ⟨x, hx, rfl⟩
    rw [hm.keys] at h1
    obtain ⟨p, hp, e⟩ := List.mem_map.1 h1
    exact ⟨p.1, e.symm, hwf p hp⟩
  have hrd : ∀ x ∈ es.toList, ∃ n, x.key = encI n ∧ WideElems.rd (H := Unit) P K (fun _ => some (.nil, [])) x = some (.int .i64 n, .nil) := fun x hx => by
    obtain ⟨n, h1, h2⟩ := hkey x hx
    refine ⟨n, h1, ?_⟩
    unfold WideElems.rd
    rw [h1]
    show (keyOf P K (.int .i64 n)).bind _ = _
    rw [keyOf_int_mk hk h2]
    rfl
  have hnd : (es.toList.map (·.key)).Nodup := by
    rw [hm.keys]
    have h1 := hm.nodup
    rw [List.nodup_iff_pairwise_ne, List.pairwise_map] at h1 ⊢
    exact h1.imp fun hne e => hne (by simpa [encI] using e)
  refine ⟨_, ⟨es, clock, hb, ⟨by omega, ⟨hm.old, hm.born, hnd⟩, fun x hx => ?_⟩, by omega, rfl⟩, ?_, ?_⟩
  · obtain ⟨n, _, h⟩ := hrd x hx
    exact ⟨_, h⟩
  · show (List.map (fun p : Lit × DataW Unit => intOf p.1) _).Perm _
    refine ((WideShapes.sorted_perm _).map _).trans ?_
    rw [List.map_map]
    have h1 : (es.toList.map ((fun p : Lit × DataW Unit => intOf p.1) ∘ WideElems.rg P K fun _ => some (.nil, []))).map encI = (m.map (·.1)).map encI := by
      rw [List.map_map, List.map_map]
      have h2 : es.toList.map (encI ∘ (fun p : Lit × DataW Unit => intOf p.1) ∘ WideElems.rg P K fun _ => some (.nil, [])) = es.toList.map (·.key) := by
        refine List.map_congr_left fun x hx => ?_
        obtain ⟨n, h1, h2⟩ := hrd x hx
        simp only [Function.comp, WideElems.rg_of h2, h1]
        rfl
      rw [h2, hm.keys]
      rfl
    have h2 : ∀ (a b : List Int), a.map encI = b.map encI → a = b := by
      intro a
      induction a with
      | nil => intro b h; cases b with
        | nil => rfl
        | cons => simp at h
      | cons x a ih => intro b h; cases b with
        | nil => simp at h
        | cons y b =>
          simp only [List.map_cons, List.cons.injEq] at h
          have : x = y := by simpa [encI] using h.1
          rw [this, ih b h.2]
    rw [h2 _ _ h1]
  · show List.length _ = _
    rw [(WideShapes.sorted_perm _).length_eq]
    simpa using hlen
theorem slo_of_owns {w w' : World} {e n : Nat} {v : Value} {xs : List Value} (h : w'.ownsRow w.heap.size e 1 v n xs) (hb : RowKit.Below w.heap.size w w') : ∃ a cap, v = .slice a n cap ∧ Sat w w' [slo e 1 a n cap xs] := by
  obtain ⟨hl, h⟩ := h
  have hE : Ext w w' := ⟨hb.size, fun b hb' => hb.block b hb', hb.os, hb.output, hb.tape⟩
  rcases h with ⟨rfl, rfl⟩ | ⟨g, cap, cur, rfl, hg, hb2, h1, h2, h3, h4⟩
  · exact ⟨none, 0, rfl, hE, fun _ => none, fun _ => none, fun _ => .inl rfl, (fun _ _ e => by cases e), (fun _ _ e => by cases e), ⟨hl, Nat.le_refl _, .inl ⟨rfl, rfl, rfl⟩⟩, trivial⟩
  · refine ⟨_, _, rfl, hE, hpOf w w', fun _ => none, fun _ => .inr rfl, sub.refl _, (fun _ _ e => by cases e), ⟨hl, h1, .inr ⟨g, cur, rfl, ?_, h3, h4⟩⟩, trivial⟩
    unfold hpOf
    rw [if_neg (by omega)]
    exact hb2
end Go.Sl
