/- Going through a map. Holds for every program. -/
import Derived.Test.YthalgkfafoehkaaSl11
import Derived.Maps.RangeRun
namespace Go.Sl
section
variable {κ : Type}
/-- What is still to come. -/
def todoOf (es : List MapEntry) (m : List (κ × Value)) (seen : Array Nat) : List (κ × Value) := ((es.zip m).filter fun q => !seen.contains q.1.born).map (·.2)
/-- An iterator over a map that nobody writes: what is to come, and what came last. -/
def iterP (b r : Nat) (es : Array MapEntry) (clock : Nat) (m todo : List (κ × Value)) (last : Option (κ × Value)) : HP := fun h =>
  ∃ seen c0, h r = some (.mapIter (some b) clock seen c0) ∧ clock ≤ c0 ∧ todo = todoOf es.toList m seen ∧ (∀ p, last = some p → ∃ (j : Nat) (e : MapEntry) (s0 : Array Nat), es[j]? = some e ∧ m[j]? = some p ∧ seen = s0.push e.born ∧ c0 = clock)
end
section
variable {P : Program} {ρ : Fr} {w w' w0 : World} {ops : Array Oper} {op : Op} {ty : TypeId} {pos : String} {af : Array Edge} {g : Option (Nat × Bool)} {l : List Oper} {Kk : Fr → World → Prop} {v : Value} {L : List HP}
variable {κ : Type} {kf : κ → Value} {m todo : List (κ × Value)} {last : Option (κ × Value)} {K E t : TypeId} {es : Array MapEntry} {clock : Nat}

theorem zip_mem {es : List MapEntry} {m : List (κ × Value)} {q : MapEntry × (κ × Value)} (h : q ∈ es.zip m) : ∃ j : Nat, es[j]? = some q.1 ∧ m[j]? = some q.2 := by
  obtain ⟨j, hj⟩ := List.mem_iff_getElem?.1 h
  rw [List.getElem?_zip_eq_some] at hj
  exact ⟨j, hj⟩
theorem todo_nil {es : Array MapEntry} {seen : Array Nat} (h : (leftOf es seen).size = 0) : todoOf es.toList m seen = [] := by
  unfold todoOf
  rw [List.map_eq_nil_iff, List.filter_eq_nil_iff]
  intro q hq hs
  obtain ⟨j, h1, _⟩ := zip_mem hq
  have h2 : q.1 ∈ (leftOf es seen).toList := by
    unfold leftOf
    rw [Array.toList_filter, List.mem_filter]
    exact ⟨List.mem_of_getElem? h1, hs⟩
  have h3 : (leftOf es seen).toList.length = 0 := by rw [Array.length_toList]; exact h
  rw [List.length_eq_zero_iff.1 h3] at h2
  cases h2
theorem todo_start : todoOf es.toList m #[] = m ↔ m.length ≤ es.size := by
  unfold todoOf
  have : ((es.toList.zip m).filter fun q => !(#[] : Array Nat).contains q.1.born) = es.toList.zip m := List.filter_eq_self.2 fun q _ => by simp
  rw [this]
  constructor
  · intro h
    have := congrArg List.length h
    simp at this; omega
  · intro h
    have : (es.toList.zip m).map (·.2) = m := List.map_snd_zip (by simpa using h)
    exact this
theorem MapIs.len (h : MapIs kf es clock m) : es.size = m.length := by
  have := congrArg List.length h.keys
  simpa using this
theorem nodup_get {α β : Type} {f : α → β} {l : List α} (h : (l.map f).Nodup) {i j : Nat} {a b : α} (hi : l[i]? = some a) (hj : l[j]? = some b) (e : f a = f b) : i = j := by
  have h1 : (l.map f)[i]? = some (f a) := by rw [List.getElem?_map, hi]; rfl
  have h2 : (l.map f)[j]? = some (f b) := by rw [List.getElem?_map, hj]; rfl
  obtain ⟨l1, e1⟩ := List.getElem?_eq_some_iff.1 h1
  obtain ⟨l2, e2⟩ := List.getElem?_eq_some_iff.1 h2
  have hp := List.pairwise_iff_getElem.1 (List.nodup_iff_pairwise_ne.1 h)
  rcases Nat.lt_trichotomy i j with q | q | q
  · exact absurd (by rw [e1, e2, e]) (hp i j l1 l2 q)
  · exact q
  · exact absurd (by rw [e1, e2, e]) (hp j i l2 l1 q)
theorem todo_step [DecidableEq κ] {es : Array MapEntry} (hm : MapIs kf es clock m) {seen : Array Nat} {j : Nat} {e : MapEntry} {p : κ × Value} (he : es[j]? = some e) (hp : m[j]? = some p) :
    todoOf es.toList m (seen.push e.born) = (todoOf es.toList m seen).filter fun q => !decide (q.1 = p.1) := by
  unfold todoOf
  rw [List.filter_map, List.filter_filter]
  congr 1
  refine List.filter_congr fun q hq => ?_
  obtain ⟨i, h1, h2⟩ := zip_mem hq
  have he' : es.toList[j]? = some e := by simpa using he
  by_cases hij : i = j
  · subst hij
    rw [he'] at h1; injection h1 with h1
    rw [hp] at h2; injection h2 with h2
    simp [← h1, ← h2]
  · have hb : q.1.born ≠ e.born := fun x => hij (nodup_get hm.born h1 he' x)
    have hk : q.2.1 ≠ p.1 := fun x => hij (nodup_get hm.nodup h2 hp x)
    simp [hb, hk]
theorem todo_mem {es : Array MapEntry} {seen : Array Nat} {e : MapEntry} (hm : MapIs kf es clock m) (he : e ∈ (leftOf es seen).toList) : ∃ (j : Nat) (p : κ × Value), es[j]? = some e ∧ m[j]? = some p ∧ p ∈ todoOf es.toList m seen ∧ e.key = kf p.1 ∧ e.val = p.2 := by
  unfold leftOf at he
  rw [Array.toList_filter, List.mem_filter] at he
  obtain ⟨j, hj⟩ := List.mem_iff_getElem?.1 he.1
  have hjl : j < es.size := by have := (List.getElem?_eq_some_iff.1 hj).1; simpa using this
  have hml := hm.len
  obtain ⟨p, hp⟩ : ∃ p, m[j]? = some p := ⟨_, List.getElem?_eq_getElem (by omega)⟩
  refine ⟨j, p, by simpa using hj, hp, ?_, ?_, ?_⟩
  · unfold todoOf
    refine List.mem_map.2 ⟨(e, p), List.mem_filter.2 ⟨?_, he.2⟩, rfl⟩
    exact List.mem_of_getElem? (List.getElem?_zip_eq_some.2 ⟨hj, hp⟩)
  · have := congrArg (fun l => l[j]?) hm.keys
    simpa [List.getElem?_map, hj, hp] using this
  · have := congrArg (fun l => l[j]?) hm.vals
    simpa [List.getElem?_map, hj, hp] using this
theorem s_range {x : Operand} {b d : Nat} (hw : wantedR ops ρ ⟨some d, .range t x, ty, pos, af, g⟩ = true) (hT : P.underlying t = some (.map K E)) (hx : ev ρ x = .map (some b)) (hb : w.heap[b]? = some (.map es clock)) (hm : MapIs kf es clock m) (H : Sat w0 w L)
    (h : ∀ r w', Sat w0 w' (L ++ [iterP b r es clock m m none]) → Ext w w' → Seq1 P ops l (upd ρ d (.pointer (some ⟨r, 0, none⟩))) w' Kk) : Seq1 P ops (⟨some d, .range t x, ty, pos, af, g⟩ :: l) ρ w Kk := by
  have H2 := (H.alloc (.mapIter (some b) clock #[] clock)).imp (i := L.length) (p := blk w.heap.size (.mapIter (some b) clock #[] clock)) (q := iterP b w.heap.size es clock m m none) (by simp) (fun g hg => ⟨#[], clock, hg, Nat.le_refl _, (todo_start.2 (Nat.le_of_eq hm.len.symm)).symm, fun p e => by cases e⟩)
  rw [List.set_append_right _ _ (Nat.le_refl _), Nat.sub_self, List.set_cons_zero] at H2
  refine s_val hw (fun _ _ _ _ => ?_) (h w.heap.size _ H2 ⟨by unfold World.alloc; simp, fun k hk => heap_alloc_old w _ hk, rfl, rfl, rfl⟩)
  simp only [execOp, hx, Sem.run_bind, run_range_map w t K E b es clock hT hb, Result.andThen_ok, Sem.run_pure]
theorem s_next [DecidableEq κ] {x : Operand} {i b r d : Nat} (hw : wantedR ops ρ ⟨some d, .next x false, ty, pos, af, g⟩ = true) (hx : ev ρ x = .pointer (some ⟨r, 0, none⟩)) (H : Sat w0 w L) (hi : L[i]? = some (iterP b r es clock m todo last)) (hb : w.heap[b]? = some (.map es clock)) (hm : MapIs kf es clock m)
    (h0 : todo = [] → Seq1 P ops l (upd ρ d (.tuple #[.bool false])) w Kk)
    (h1 : ∀ p w', p ∈ todo → Sat w0 w' (L.set i (iterP b r es clock m (todo.filter fun q => !decide (q.1 = p.1)) (some p))) → (∀ k, k ≠ r → w'.heap[k]? = w.heap[k]?) → w'.heap.size = w.heap.size →
      Seq1 P ops l (upd ρ d (.tuple #[.bool true, kf p.1, p.2])) w' Kk) : Seq1 P ops (⟨some d, .next x false, ty, pos, af, g⟩ :: l) ρ w Kk := by
  obtain ⟨hE, hp1, hp2, dj, s1, s2, ⟨seen, c0, hr, hc, ht, _⟩, hq⟩ := H.pick hi
  have H1 : Sat w0 w (L.set i (blk r (.mapIter (some b) clock seen c0))) := ⟨hE, stars_perm (perm_set (lt_of_pick hi) _) ⟨hp1, hp2, dj, s1, s2, hr, hq⟩⟩
  have hrw := H1.heap (get_set hi _)
  rcases run_next_at (P := P) w ty r b clock c0 seen es clock hrw hb hm.old hc with ⟨hz, hrun⟩ | ⟨e, he, w1, hw1, hrun⟩
  · refine s_val hw (fun _ _ _ _ => ?_) (h0 (by rw [ht]; exact todo_nil hz))
    simp only [execOp, hx, Sem.run_bind, hrun, Result.andThen_ok, Sem.run_pure]
  · obtain ⟨j, p, hj, hpj, hpt, hk, hv⟩ := todo_mem hm he
    have hheap : w1.heap = w.heap := by rcases hw1 with rfl | rfl <;> rfl
    have hlt : r < w1.heap.size := by rw [hheap]; exact (Array.getElem?_eq_some_iff.1 hrw).1
    have hbut : But w (ChangeMaps.setBlock w1 r (.mapIter (some b) clock (seen.push e.born) clock)) r := by
      refine ⟨by simp [ChangeMaps.setBlock, hheap], fun k hk => ?_, (by rcases hw1 with rfl | rfl <;> rfl), (by rcases hw1 with rfl | rfl <;> rfl), (by rcases hw1 with rfl | rfl <;> rfl)⟩
      show (w1.heap.setIfInBounds r _)[k]? = _
      rw [Array.getElem?_setIfInBounds_ne (Ne.symm hk), hheap]
    have H2 := H1.set (o' := .mapIter (some b) clock (seen.push e.born) clock) (get_set hi _) hbut (by
      show (w1.heap.setIfInBounds r _)[r]? = _
      rw [Array.getElem?_setIfInBounds_self_of_lt hlt])
    rw [set_set] at H2
    have H3 := H2.imp (i := i) (q := iterP b r es clock m (todo.filter fun q => !decide (q.1 = p.1)) (some p)) (get_set hi _) (fun g hg => ⟨seen.push e.born, clock, hg, Nat.le_refl _, by rw [ht, todo_step hm hj hpj], fun p' e' => by
      injection e' with e'; subst e'; exact ⟨j, e, seen, hj, hpj, rfl, rfl⟩⟩)
    rw [set_set] at H3
    refine s_val hw (v := .tuple #[.bool true, kf p.1, p.2]) (fun _ _ _ _ => ?_) (h1 p _ (by rw [ht]; exact hpt) H3 hbut.other hbut.size)
    rw [← hk, ← hv]
    simp only [execOp, hx, Sem.run_bind, hrun, Result.andThen_ok, Sem.run_pure]
theorem x_entry {x : Operand} {i b r : Nat} {p : κ × Value} (hx : ev ρ x = .pointer (some ⟨r, 0, none⟩)) (H : Sat w0 w L) (hi : L[i]? = some (iterP b r es clock m todo (some p))) (hb : w.heap[b]? = some (.map es clock)) (hm : MapIs kf es clock m) :
    Ev1 P (.entry x) ty ρ w (.tuple #[kf p.1, p.2]) w := fun _ _ _ _ => by
  obtain ⟨hE, hp1, hp2, dj, s1, s2, ⟨seen, c0, hr, hc, ht, hl⟩, hq⟩ := H.pick hi
  obtain ⟨j, e, s0, h1, h2, rfl, hc0⟩ := hl p rfl
  subst hc0
  have H1 : Sat w0 w (L.set i (blk r (.mapIter (some b) c0 (s0.push e.born) c0))) := ⟨hE, stars_perm (perm_set (lt_of_pick hi) _) ⟨hp1, hp2, dj, s1, s2, hr, hq⟩⟩
  have hrw := H1.heap (get_set hi _)
  have h1' : es.toList[j]? = some e := by simpa using h1
  have hrun := run_entry_at (P := P) w r b c0 s0 es c0 e hrw hb (List.mem_of_getElem? h1') hm.born
  have hk : e.key = kf p.1 := by
    have := congrArg (fun l => l[j]?) hm.keys
    simpa [List.getElem?_map, h1', h2] using this
  have hv : e.val = p.2 := by
    have := congrArg (fun l => l[j]?) hm.vals
    simpa [List.getElem?_map, h1', h2] using this
  rw [← hk, ← hv]
  simp only [execOp, hx, Sem.run_bind, hrun, Result.andThen_ok, Sem.run_pure]
end
end Go.Sl
