/- Several texts of this proof in one. -/
import Derived.Test.YthalgkfafoehkaaDoorGSlA
import Derived.Shelf.SlIterI.Nil
import Derived.Maps.RangeRun
import Derived.WalkKit
import Derived.ProofKit
import Derived.OpenShut
import Derived.Deep.Slices
import Derived.Deep.Fields
import Derived.SizedLaws
/- A map of whole numbers as the kit's own reader has it; sorted lists. Holds for every program. -/
namespace Go.Sl
open Go.Maps

def encI (n : Int) : Value := .int .i64 n
theorem perm_pair {l m : List Int} (h : l.Perm m) (hn : m.Nodup) : (l.mergeSort fun x y => decide (x ≤ y)).Pairwise (· < ·) ∧ ∀ k, k ∈ (l.mergeSort fun x y => decide (x ≤ y)) ↔ k ∈ m := by
  have hp := (List.mergeSort_perm l fun x y => decide (x ≤ y)).trans h
  have hs : (l.mergeSort fun x y => decide (x ≤ y)).Pairwise fun a b => decide (a ≤ b) = true :=
    List.pairwise_mergeSort (fun a b c h1 h2 => by simp only [decide_eq_true_eq] at *; exact Int.le_trans h1 h2) (fun a b => by simp only [Bool.or_eq_true, decide_eq_true_eq]; exact Int.le_total a b) l
  have hd : (l.mergeSort fun x y => decide (x ≤ y)).Nodup := (hp.nodup_iff).2 hn
  refine ⟨?_, fun k => hp.mem_iff⟩
  refine (hs.and hd).imp ?_
  intro a b ⟨h1, h2⟩
  simp only [decide_eq_true_eq] at h1
  omega

theorem owns_of_mapAt {P : Program} {K : TypeId} (hk : P.underlying K = some (.int .i64)) {w : World} {b : Nat} {m : List (Int × Value)} (h : MapAt w encI b m) (hwf : ∀ p ∈ m, (Lit.int .i64 p.1).wf = true) (hl : m.length ≤ maxLen) :
    ∃ D0 : DataW Unit, w.ownsMap P K (fun _ => some (.nil, [])) b m.length D0 ∧ (intKeys D0).Perm (m.map (·.1)) ∧ Maps.size D0 = m.length := by
  obtain ⟨es, clock, hb, hm⟩ := h
  have hlen : es.size = m.length := by
    have := congrArg List.length hm.keys
    simpa using this
  have hkey : ∀ x ∈ es.toList, ∃ n, x.key = encI n ∧ (Lit.int .i64 n).wf = true := fun x hx => by
    have h1 : x.key ∈ es.toList.map (·.key) := List.mem_map.2 ⟨x, hx, rfl⟩
    rw [hm.keys] at h1
    obtain ⟨p, hp, e⟩ := List.mem_map.1 h1
    exact ⟨p.1, e.symm, hwf p hp⟩
  have hrd : ∀ x ∈ es.toList, ∃ n, x.key = encI n ∧ WideElems.rd (H := Unit) P K (fun _ => some (.nil, [])) x = some (.int .i64 n, .nil) := fun x hx => by
    obtain ⟨n, h1, h2⟩ := hkey x hx
    refine ⟨n, h1, ?_⟩
    unfold WideElems.rd
    rw [h1]
    show (keyOf P K (.int .i64 n)).bind _ = _
    rw [keyOf_int_mk hk h2]
    rfl
  have hnd : (es.toList.map (·.key)).Nodup := by
    rw [hm.keys]
    have h1 := hm.nodup
    rw [List.nodup_iff_pairwise_ne, List.pairwise_map] at h1 ⊢
    exact h1.imp fun hne e => hne (by simpa [encI] using e)
  refine ⟨_, ⟨es, clock, hb, ⟨by omega, ⟨hm.old, hm.born, hnd⟩, fun x hx => ?_⟩, by omega, rfl⟩, ?_, ?_⟩
  · obtain ⟨n, _, h⟩ := hrd x hx
    exact ⟨_, h⟩
  · show (List.map (fun p : Lit × DataW Unit => intOf p.1) _).Perm _
    refine ((WideShapes.sorted_perm _).map _).trans ?_
    rw [List.map_map]
    have h1 : (es.toList.map ((fun p : Lit × DataW Unit => intOf p.1) ∘ WideElems.rg P K fun _ => some (.nil, []))).map encI = (m.map (·.1)).map encI := by
      rw [List.map_map, List.map_map]
      have h2 : es.toList.map (encI ∘ (fun p : Lit × DataW Unit => intOf p.1) ∘ WideElems.rg P K fun _ => some (.nil, [])) = es.toList.map (·.key) := by
        refine List.map_congr_left fun x hx => ?_
        obtain ⟨n, h1, h2⟩ := hrd x hx
        simp only [Function.comp, WideElems.rg_of h2, h1]
        rfl
      rw [h2, hm.keys]
      rfl
    have h2 : ∀ (a b : List Int), a.map encI = b.map encI → a = b := by
      intro a
      induction a with
      | nil => intro b h; cases b with
        | nil => rfl
        | cons => simp at h
      | cons x a ih => intro b h; cases b with
        | nil => simp at h
        | cons y b =>
          simp only [List.map_cons, List.cons.injEq] at h
          have : x = y := by simpa [encI] using h.1
          rw [this, ih b h.2]
    rw [h2 _ _ h1]
  · show List.length _ = _
    rw [(WideShapes.sorted_perm _).length_eq]
    simpa using hlen
theorem slo_of_owns {w w' : World} {e n : Nat} {v : Value} {xs : List Value} (h : w'.ownsRow w.heap.size e 1 v n xs) (hb : RowKit.Below w.heap.size w w') : ∃ a cap, v = .slice a n cap ∧ Sat w w' [slo e 1 a n cap xs] := by
  obtain ⟨hl, h⟩ := h
  have hE : Ext w w' := ⟨hb.size, fun b hb' => hb.block b hb', hb.os, hb.output, hb.tape⟩
  rcases h with ⟨rfl, rfl⟩ | ⟨g, cap, cur, rfl, hg, hb2, h1, h2, h3, h4⟩
  · exact ⟨none, 0, rfl, hE, fun _ => none, fun _ => none, fun _ => .inl rfl, (fun _ _ e => by cases e), (fun _ _ e => by cases e), ⟨hl, Nat.le_refl _, .inl ⟨rfl, rfl, rfl⟩⟩, trivial⟩
  · refine ⟨_, _, rfl, hE, hpOf w w', fun _ => none, fun _ => .inr rfl, sub.refl _, (fun _ _ e => by cases e), ⟨hl, h1, .inr ⟨g, cur, rfl, ?_, h3, h4⟩⟩, trivial⟩
    unfold hpOf
    rw [if_neg (by omega)]
    exact hb2
end Go.Sl
/- Loops with the frame's slots named. Holds for every program. -/
namespace Go.Sl
section
variable {P : Program} {n : Nat} {ρ : Fr} {w : World} {Q : Exit → Fr → World → Prop} {c : Code}
/-- The loop's state: what the slots hold, and what is so of the world. -/
def LoopI {α : Type} (live : α → List (Nat × Value)) (I : α → World → Prop) (m : α → Nat) : Nat → Fr → World → Prop := fun j ρ w => ∃ x, m x = j ∧ Slots ρ (live x) ∧ I x w
theorem WP_loopA {α : Type} (live : α → List (Nat × Value)) (I : α → World → Prop) (m : α → Nat) (x0 : α) (hs : Slots ρ (live x0)) (hI : I x0 w)
    (round : ∀ x ρ w, I x w → WP P n c (upds (live x) ρ) w (loopQ (LoopI live I m) (m x) Q)) : WP P n (.loop c) ρ w Q := by
  refine WP_loop (LoopI live I m) (m x0) ⟨x0, rfl, hs, hI⟩ ?_
  rintro k ρ w ⟨x, rfl, hs, hI⟩
  have h1 := round x ρ w hI
  rw [hs.upds] at h1
  exact h1
theorem loopQ_A {α : Type} {live : α → List (Nat × Value)} {I : α → World → Prop} {m : α → Nat} {k : Nat} (x : α) (hm : m x < k) (hs : Slots ρ (live x)) (hI : I x w) : loopQ (LoopI live I m) k Q .normal ρ w :=
  ⟨m x, hm, x, rfl, hs, hI⟩
end
theorem x_makeFuncA {P : Program} {ρ : Fr} {w : World} {f : Fn} {xs ys : Array Operand} {l1 l2 : List Value} {ty : TypeId} (h1 : xs.toList.map (ev ρ) = l1) (h2 : ys.toList.map (ev ρ) = l2) :
    Ev1 P (.makeFunc f xs ys) ty ρ w (.func f l1.toArray l2.toArray) w := by
  have h := x_makeFunc (P := P) (ρ := ρ) (w := w) (fn := f) (first := xs) (cap := ys) (ty := ty)
  have e1 : xs.map (ev ρ) = l1.toArray := by rw [← h1, ← Array.toList_map, Array.toArray_toList]
  have e2 : ys.map (ev ρ) = l2.toArray := by rw [← h2, ← Array.toList_map, Array.toArray_toList]
  rw [e1, e2] at h
  exact h
theorem nodup_le : ∀ (n : Nat) (l : List Nat), l.Nodup → (∀ k ∈ l, k < n) → l.length ≤ n := by
  intro n
  induction n with
  | zero => intro l _ h; cases l with
    | nil => exact Nat.le_refl _
    | cons k l => exact absurd (h k (List.mem_cons_self ..)) (Nat.not_lt_zero k)
  | succ n ih =>
    intro l hd h
    have h1 := ih (l.erase n) (hd.erase n) fun k hk => by
      have h2 := (hd.mem_erase_iff).1 hk
      have := h k h2.2
      omega
    rw [List.length_erase] at h1
    split at h1 <;> omega
end Go.Sl
/- Going through a map. Holds for every program. -/
namespace Go.Sl
section
variable {κ : Type}
/-- What is still to come. -/
def todoOf (es : List MapEntry) (m : List (κ × Value)) (seen : Array Nat) : List (κ × Value) := ((es.zip m).filter fun q => !seen.contains q.1.born).map (·.2)
/-- An iterator over a map that nobody writes: what is to come, and what came last. -/
def iterP (b r : Nat) (es : Array MapEntry) (clock : Nat) (m todo : List (κ × Value)) (last : Option (κ × Value)) : HP := fun h =>
  ∃ seen c0, h r = some (.mapIter (some b) clock seen c0) ∧ clock ≤ c0 ∧ todo = todoOf es.toList m seen ∧ (∀ p, last = some p → ∃ (j : Nat) (e : MapEntry) (s0 : Array Nat), es[j]? = some e ∧ m[j]? = some p ∧ seen = s0.push e.born ∧ c0 = clock)
end
section
variable {P : Program} {ρ : Fr} {w w' w0 : World} {ops : Array Oper} {op : Op} {ty : TypeId} {pos : String} {af : Array Edge} {g : Option (Nat × Bool)} {l : List Oper} {Kk : Fr → World → Prop} {v : Value} {L : List HP}
variable {κ : Type} {kf : κ → Value} {m todo : List (κ × Value)} {last : Option (κ × Value)} {K E t : TypeId} {es : Array MapEntry} {clock : Nat}

theorem zip_mem {es : List MapEntry} {m : List (κ × Value)} {q : MapEntry × (κ × Value)} (h : q ∈ es.zip m) : ∃ j : Nat, es[j]? = some q.1 ∧ m[j]? = some q.2 := by
  obtain ⟨j, hj⟩ := List.mem_iff_getElem?.1 h
  rw [List.getElem?_zip_eq_some] at hj
  exact ⟨j, hj⟩
theorem todo_nil {es : Array MapEntry} {seen : Array Nat} (h : (leftOf es seen).size = 0) : todoOf es.toList m seen = [] := by
  unfold todoOf
  rw [List.map_eq_nil_iff, List.filter_eq_nil_iff]
  intro q hq hs
  obtain ⟨j, h1, _⟩ := zip_mem hq
  have h2 : q.1 ∈ (leftOf es seen).toList := by
    unfold leftOf
    rw [Array.toList_filter, List.mem_filter]
    exact ⟨List.mem_of_getElem? h1, hs⟩
  have h3 : (leftOf es seen).toList.length = 0 := by rw [Array.length_toList]; exact h
  rw [List.length_eq_zero_iff.1 h3] at h2
  cases h2
theorem todo_start : todoOf es.toList m #[] = m ↔ m.length ≤ es.size := by
  unfold todoOf
  have : ((es.toList.zip m).filter fun q => !(#[] : Array Nat).contains q.1.born) = es.toList.zip m := List.filter_eq_self.2 fun q _ => by simp
  rw [this]
  constructor
  · intro h
    have := congrArg List.length h
    simp at this; omega
  · intro h
    have : (es.toList.zip m).map (·.2) = m := List.map_snd_zip (by simpa using h)
    exact this
theorem MapIs.len (h : MapIs kf es clock m) : es.size = m.length := by
  have := congrArg List.length h.keys
  simpa using this
theorem nodup_get {α β : Type} {f : α → β} {l : List α} (h : (l.map f).Nodup) {i j : Nat} {a b : α} (hi : l[i]? = some a) (hj : l[j]? = some b) (e : f a = f b) : i = j := by
  have h1 : (l.map f)[i]? = some (f a) := by rw [List.getElem?_map, hi]; rfl
  have h2 : (l.map f)[j]? = some (f b) := by rw [List.getElem?_map, hj]; rfl
  obtain ⟨l1, e1⟩ := List.getElem?_eq_some_iff.1 h1
  obtain ⟨l2, e2⟩ := List.getElem?_eq_some_iff.1 h2
  have hp := List.pairwise_iff_getElem.1 (List.nodup_iff_pairwise_ne.1 h)
  rcases Nat.lt_trichotomy i j with q | q | q
  · exact absurd (by rw [e1, e2, e]) (hp i j l1 l2 q)
  · exact q
  · exact absurd (by rw [e1, e2, e]) (hp j i l2 l1 q)
theorem todo_step [DecidableEq κ] {es : Array MapEntry} (hm : MapIs kf es clock m) {seen : Array Nat} {j : Nat} {e : MapEntry} {p : κ × Value} (he : es[j]? = some e) (hp : m[j]? = some p) :
    todoOf es.toList m (seen.push e.born) = (todoOf es.toList m seen).filter fun q => !decide (q.1 = p.1) := by
  unfold todoOf
  rw [List.filter_map, List.filter_filter]
  congr 1
  refine List.filter_congr fun q hq => ?_
  obtain ⟨i, h1, h2⟩ := zip_mem hq
  have he' : es.toList[j]? = some e := by simpa using he
  by_cases hij : i = j
  · subst hij
    rw [he'] at h1; injection h1 with h1
    rw [hp] at h2; injection h2 with h2
    simp [← h1, ← h2]
  · have hb : q.1.born ≠ e.born := fun x => hij (nodup_get hm.born h1 he' x)
    have hk : q.2.1 ≠ p.1 := fun x => hij (nodup_get hm.nodup h2 hp x)
    simp [hb, hk]
theorem todo_mem {es : Array MapEntry} {seen : Array Nat} {e : MapEntry} (hm : MapIs kf es clock m) (he : e ∈ (leftOf es seen).toList) : ∃ (j : Nat) (p : κ × Value), es[j]? = some e ∧ m[j]? = some p ∧ p ∈ todoOf es.toList m seen ∧ e.key = kf p.1 ∧ e.val = p.2 := by
  unfold leftOf at he
  rw [Array.toList_filter, List.mem_filter] at he
  obtain ⟨j, hj⟩ := List.mem_iff_getElem?.1 he.1
  have hjl : j < es.size := by have := (List.getElem?_eq_some_iff.1 hj).1; simpa using this
  have hml := hm.len
  obtain ⟨p, hp⟩ : ∃ p, m[j]? = some p := ⟨_, List.getElem?_eq_getElem (by omega)⟩
  refine ⟨j, p, by simpa using hj, hp, ?_, ?_, ?_⟩
  · unfold todoOf
    refine List.mem_map.2 ⟨(e, p), List.mem_filter.2 ⟨?_, he.2⟩, rfl⟩
    exact List.mem_of_getElem? (List.getElem?_zip_eq_some.2 ⟨hj, hp⟩)
  · have := congrArg (fun l => l[j]?) hm.keys
    simpa [List.getElem?_map, hj, hp] using this
  · have := congrArg (fun l => l[j]?) hm.vals
    simpa [List.getElem?_map, hj, hp] using this
theorem s_range {x : Operand} {b d : Nat} (hw : wantedR ops ρ ⟨some d, .range t x, ty, pos, af, g⟩ = true) (hT : P.underlying t = some (.map K E)) (hx : ev ρ x = .map (some b)) (hb : w.heap[b]? = some (.map es clock)) (hm : MapIs kf es clock m) (H : Sat w0 w L)
    (h : ∀ r w', Sat w0 w' (L ++ [iterP b r es clock m m none]) → Ext w w' → Seq1 P ops l (upd ρ d (.pointer (some ⟨r, 0, none⟩))) w' Kk) : Seq1 P ops (⟨some d, .range t x, ty, pos, af, g⟩ :: l) ρ w Kk := by
  have H2 := (H.alloc (.mapIter (some b) clock #[] clock)).imp (i := L.length) (p := blk w.heap.size (.mapIter (some b) clock #[] clock)) (q := iterP b w.heap.size es clock m m none) (by simp) (fun g hg => ⟨#[], clock, hg, Nat.le_refl _, (todo_start.2 (Nat.le_of_eq hm.len.symm)).symm, fun p e => by cases e⟩)
  rw [List.set_append_right _ _ (Nat.le_refl _), Nat.sub_self, List.set_cons_zero] at H2
  refine s_val hw (fun _ _ _ _ => ?_) (h w.heap.size _ H2 ⟨by unfold World.alloc; simp, fun k hk => heap_alloc_old w _ hk, rfl, rfl, rfl⟩)
  simp only [execOp, hx, Sem.run_bind, run_range_map w t K E b es clock hT hb, Result.andThen_ok, Sem.run_pure]
theorem s_next [DecidableEq κ] {x : Operand} {i b r d : Nat} (hw : wantedR ops ρ ⟨some d, .next x false, ty, pos, af, g⟩ = true) (hx : ev ρ x = .pointer (some ⟨r, 0, none⟩)) (H : Sat w0 w L) (hi : L[i]? = some (iterP b r es clock m todo last)) (hb : w.heap[b]? = some (.map es clock)) (hm : MapIs kf es clock m)
    (h0 : todo = [] → Seq1 P ops l (upd ρ d (.tuple #[.bool false])) w Kk)
    (h1 : ∀ p w', p ∈ todo → Sat w0 w' (L.set i (iterP b r es clock m (todo.filter fun q => !decide (q.1 = p.1)) (some p))) → (∀ k, k ≠ r → w'.heap[k]? = w.heap[k]?) → w'.heap.size = w.heap.size →
      Seq1 P ops l (upd ρ d (.tuple #[.bool true, kf p.1, p.2])) w' Kk) : Seq1 P ops (⟨some d, .next x false, ty, pos, af, g⟩ :: l) ρ w Kk := by
  obtain ⟨hE, hp1, hp2, dj, s1, s2, ⟨seen, c0, hr, hc, ht, _⟩, hq⟩ := H.pick hi
  have H1 : Sat w0 w (L.set i (blk r (.mapIter (some b) clock seen c0))) := ⟨hE, stars_perm (perm_set (lt_of_pick hi) _) ⟨hp1, hp2, dj, s1, s2, hr, hq⟩⟩
  have hrw := H1.heap (get_set hi _)
  rcases run_next_at (P := P) w ty r b clock c0 seen es clock hrw hb hm.old hc with ⟨hz, hrun⟩ | ⟨e, he, w1, hw1, hrun⟩
  · refine s_val hw (fun _ _ _ _ => ?_) (h0 (by rw [ht]; exact todo_nil hz))
    simp only [execOp, hx, Sem.run_bind, hrun, Result.andThen_ok, Sem.run_pure]
  · obtain ⟨j, p, hj, hpj, hpt, hk, hv⟩ := todo_mem hm he
    have hheap : w1.heap = w.heap := by rcases hw1 with rfl | rfl <;> rfl
    have hlt : r < w1.heap.size := by rw [hheap]; exact (Array.getElem?_eq_some_iff.1 hrw).1
    have hbut : But w (ChangeMaps.setBlock w1 r (.mapIter (some b) clock (seen.push e.born) clock)) r := by
      refine ⟨by simp [ChangeMaps.setBlock, hheap], fun k hk => ?_, (by rcases hw1 with rfl | rfl <;> rfl), (by rcases hw1 with rfl | rfl <;> rfl), (by rcases hw1 with rfl | rfl <;> rfl)⟩
      show (w1.heap.setIfInBounds r _)[k]? = _
      rw [Array.getElem?_setIfInBounds_ne (Ne.symm hk), hheap]
    have H2 := H1.set (o' := .mapIter (some b) clock (seen.push e.born) clock) (get_set hi _) hbut (by
      show (w1.heap.setIfInBounds r _)[r]? = _
      rw [Array.getElem?_setIfInBounds_self_of_lt hlt])
    rw [set_set] at H2
    have H3 := H2.imp (i := i) (q := iterP b r es clock m (todo.filter fun q => !decide (q.1 = p.1)) (some p)) (get_set hi _) (fun g hg => ⟨seen.push e.born, clock, hg, Nat.le_refl _, by rw [ht, todo_step hm hj hpj], fun p' e' => by
      injection e' with e'; subst e'; exact ⟨j, e, seen, hj, hpj, rfl, rfl⟩⟩)
    rw [set_set] at H3
    refine s_val hw (v := .tuple #[.bool true, kf p.1, p.2]) (fun _ _ _ _ => ?_) (h1 p _ (by rw [ht]; exact hpt) H3 hbut.other hbut.size)
    rw [← hk, ← hv]
    simp only [execOp, hx, Sem.run_bind, hrun, Result.andThen_ok, Sem.run_pure]
theorem x_entry {x : Operand} {i b r : Nat} {p : κ × Value} (hx : ev ρ x = .pointer (some ⟨r, 0, none⟩)) (H : Sat w0 w L) (hi : L[i]? = some (iterP b r es clock m todo (some p))) (hb : w.heap[b]? = some (.map es clock)) (hm : MapIs kf es clock m) :
    Ev1 P (.entry x) ty ρ w (.tuple #[kf p.1, p.2]) w := fun _ _ _ _ => by
  obtain ⟨hE, hp1, hp2, dj, s1, s2, ⟨seen, c0, hr, hc, ht, hl⟩, hq⟩ := H.pick hi
  obtain ⟨j, e, s0, h1, h2, rfl, hc0⟩ := hl p rfl
  subst hc0
  have H1 : Sat w0 w (L.set i (blk r (.mapIter (some b) c0 (s0.push e.born) c0))) := ⟨hE, stars_perm (perm_set (lt_of_pick hi) _) ⟨hp1, hp2, dj, s1, s2, hr, hq⟩⟩
  have hrw := H1.heap (get_set hi _)
  have h1' : es.toList[j]? = some e := by simpa using h1
  have hrun := run_entry_at (P := P) w r b c0 s0 es c0 e hrw hb (List.mem_of_getElem? h1') hm.born
  have hk : e.key = kf p.1 := by
    have := congrArg (fun l => l[j]?) hm.keys
    simpa [List.getElem?_map, h1', h2] using this
  have hv : e.val = p.2 := by
    have := congrArg (fun l => l[j]?) hm.vals
    simpa [List.getElem?_map, h1', h2] using this
  rw [← hk, ← hv]
  simp only [execOp, hx, Sem.run_bind, hrun, Result.andThen_ok, Sem.run_pure]
end
end Go.Sl
/- Structs and arrays stored whole. Holds for every program. -/
namespace Go.Sl
section
variable {P : Program} {ρ : Fr} {w w' w0 : World} {ops : Array Oper} {ty : TypeId} {pos : String} {af : Array Edge} {g : Option (Nat × Bool)} {l : List Oper} {K : Fr → World → Prop} {L : List HP}
def putRow (cs : List Value) (off : Nat) (vs : List Value) : Array Value := (cs.take off ++ vs ++ cs.drop (off + vs.length)).toArray
theorem s_storeA {t n : TypeId} {a x : Operand} {i b off : Nat} {cs vs : List Value} {T : TypeId} (hw : wantedR ops ρ ⟨none, .store t a x, ty, pos, af, g⟩ = true) (h1 : aggB P t n = true)
    (ha : ev ρ a = .pointer (some ⟨b, off, none⟩)) (hx : ev ρ x = .agg vs.toArray) (hn : vs.length = n) (hv : ∀ u ∈ vs, u.oneCell' = true)
    (H : Sat w0 w L) (hi : L[i]? = some (blk b (.cells cs.toArray T (0, 0)))) (ho : off + vs.length ≤ cs.length)
    (h : ∀ w', Sat w0 w' (L.set i (blk b (.cells (putRow cs off vs) T (0, 0)))) → Seq1 P ops l ρ w' K) : Seq1 P ops (⟨none, .store t a x, ty, pos, af, g⟩ :: l) ρ w K := by
  have hb := H.heap hi
  have hst := run_storeCells_at P b off T vs 0 cs.toArray w hb (by simp; omega) hv
  have hbut : But w (w.setRow b (putRow cs off vs)) b := by
    refine ⟨by simp [World.setRow], fun j hj => ?_, rfl, rfl, rfl⟩
    simp [World.setRow, Array.getElem?_modify, Ne.symm hj]
  have hnew := setRow_heap w b cs.toArray (putRow cs off vs) T (0, 0) hb
  have H2 := H.set hi hbut hnew
  refine s_do hw (fun _ _ _ _ => ?_) (h _ H2)
  have hc : (Value.agg vs.toArray).cells = vs.toArray := rfl
  simp only [Nat.add_zero, List.size_toArray] at hst
  simp [execOp, ha, hx, Instr.storeAt, Instr.sureAddr, storeVar, hc, (aggB_spec (w := w) h1).2, hn, hst, putRow]
end
/-! ### Going through no map -/
section
variable {P : Program} {ρ : Fr} {w w' w0 : World} {ops : Array Oper} {ty : TypeId} {pos : String} {af : Array Edge} {g : Option (Nat × Bool)} {l : List Oper} {Kk : Fr → World → Prop} {L : List HP} {t K E : TypeId}
theorem s_rangeNil {x : Operand} {d : Nat} (hw : wantedR ops ρ ⟨some d, .range t x, ty, pos, af, g⟩ = true) (hT : P.underlying t = some (.map K E)) (hx : ev ρ x = .map none) (H : Sat w0 w L)
    (h : ∀ r w', Sat w0 w' (L ++ [blk r (.mapIter none 0 #[] 0)]) → Seq1 P ops l (upd ρ d (.pointer (some ⟨r, 0, none⟩))) w' Kk) : Seq1 P ops (⟨some d, .range t x, ty, pos, af, g⟩ :: l) ρ w Kk := by
  refine s_val hw (fun _ _ _ _ => ?_) (h w.heap.size _ (H.alloc (.mapIter none 0 #[] 0)))
  simp only [execOp, hx, Sem.run_bind, run_range_nilMap w t K E hT, Result.andThen_ok, Sem.run_pure]
theorem x_nextNil {x : Operand} {r : Nat} (hx : ev ρ x = .pointer (some ⟨r, 0, none⟩)) (hr : w.heap[r]? = some (.mapIter none 0 #[] 0)) : Ev1 P (.next x false) ty ρ w (.tuple #[.bool false]) w := fun _ _ _ _ => by
  have e : (Instr.next (.pointer (some ⟨r, 0, none⟩)) false ty).run P w = .ok (.tuple #[.bool false]) w := by
    simp only [Instr.next, getObj, Sem.run_bind, Sem.run, hr, Result.andThen]
    rfl
  simp only [execOp, hx, Sem.run_bind, e, Result.andThen_ok, Sem.run_pure]
end
/-! ### Where ways meet -/
section
variable {P : Program} {n : Nat} {ρ : Fr} {w : World} {Q : Exit → Fr → World → Prop} {c y : Code}
def MeetI {α : Type} (live : α → List (Nat × Value)) (I : α → World → Prop) : Fr → World → Prop := fun ρ w => ∃ x, Slots ρ (live x) ∧ I x w
theorem WP_meetA {α : Type} (live : α → List (Nat × Value)) (I : α → World → Prop) (h : WP P n c ρ w (thenQ (MeetI live I) Q)) (k : ∀ x ρ w, I x w → WP P n y (upds (live x) ρ) w Q) : WP P n (.seq c y) ρ w Q := by
  refine WP_seq (WP.mono h fun e ρ w q => ?_)
  cases e with
  | normal =>
    obtain ⟨x, h1, h2⟩ := (q : MeetI live I ρ w)
    have := k x ρ w h2
    rw [h1.upds] at this
    exact this
  | _ => exact q
theorem thenQ_meet {α : Type} {live : α → List (Nat × Value)} {I : α → World → Prop} (x : α) (hs : Slots ρ (live x)) (hI : I x w) : thenQ (MeetI live I) Q .normal ρ w := ⟨x, hs, hI⟩
end
section
variable {P : Program} {ρ : Fr} {w : World} {ty : TypeId} {t : TypeId}
theorem x_neqBool_of {x y : Operand} {yt : TypeId} {p q r : Bool} (e : (!(p == q)) = r) (hu : P.underlying t = some .bool) (hx : ev ρ x = .bool p) (hy : ev ρ y = .bool q) : Ev1 P (.binOp .neq t x y yt) ty ρ w (.bool r) w := e ▸ x_neqBool hu hx hy
theorem x_eqlBool_of {x y : Operand} {yt : TypeId} {p q r : Bool} (e : (p == q) = r) (hu : P.underlying t = some .bool) (hx : ev ρ x = .bool p) (hy : ev ρ y = .bool q) : Ev1 P (.binOp .eql t x y yt) ty ρ w (.bool r) w := e ▸ x_eqlBool hu hx hy
end
/-! ### Lists of assertions in another order -/
theorem Sat.addEmps {w0 w : World} {L : List HP} (H : Sat w0 w L) : ∀ k, Sat w0 w (L ++ List.replicate k emp) := by
  intro k
  refine H.more ⟨Ext.refl w, ?_⟩
  induction k with
  | zero => trivial
  | succ k ih => exact ⟨fun _ => none, hpOf w w, fun _ => .inl rfl, (fun _ _ e => by cases e), sub.refl _, trivial, ih⟩
/-- k empty assertions more, then all by the numbers js, then the first m of them. -/
theorem Sat.re {w0 w : World} {L : List HP} (H : Sat w0 w L) (k m : Nat) (js : List Nat) (h : js.isPerm (List.range (L ++ List.replicate k emp).length) = true) : Sat w0 w ((js.map fun j => (L ++ List.replicate k emp).getD j emp).take m) := by
  have H1 := H.addEmps k
  generalize L ++ List.replicate k emp = M at h H1
  have hp := (List.isPerm_iff.1 h).map fun j => M.getD j emp
  have e : (List.range M.length).map (fun j => M.getD j emp) = M := by
    apply List.ext_getElem?
    intro i
    rw [List.getElem?_map]
    by_cases hi : i < M.length
    · simp [hi]
    · simp [hi]
  rw [e] at hp
  have H2 := H1.perm hp.symm
  rw [← List.take_append_drop m (js.map fun j => M.getD j emp)] at H2
  have H3 := (H2.perm List.perm_append_comm).part
  exact H3.drop 0
end Go.Sl
/- A row's last step: what came in reads as it did where a call has kept all memory that lay before it. Holds for every program. -/
namespace Go.Sl
open Go.ChangeShapes Go.WideShapes Go.ChangeAt Go.RowKit
theorem Ext.frozen {w w' : World} (h : Ext w w') {p : Addr} (hp : p.block < w.heap.size) : w'.frozen? p = w.frozen? p := by
  unfold World.frozen?
  rw [h.2.1 _ hp]
theorem Ext.below {w w' : World} (h : Ext w w') : Below w.heap.size w w' := ⟨h.2.2.1, h.2.2.2.2, h.2.2.2.1, h.1, fun k hk => h.2.1 k hk⟩
theorem Ext.frame {w w' : World} (h : Ext w w') (may : MemPlace → Prop) : w.keptBut w' may := by
  refine ⟨h.2.2.1, h.2.2.2.1, fun i hi => ?_⟩
  rw [h.2.1 i hi]
  have : ∃ o, w.heap[i]? = some o := ⟨_, Array.getElem?_eq_getElem hi⟩
  obtain ⟨o, ho⟩ := this
  rw [ho]
  cases o <;> simp
section
variable {H : Type} {enc : TypeId × Value → H} {P : Program}
theorem post_of_ext {f : Func} {s : ChangeSpec} {apart fresh handsOn again : Bool} {W W' : World} {args : Array Value} {v : Value} {ds gs : List (DataW H)} {before pa pv : List MemPlace}
    (hW : DataW.Whole enc P f.params.toList s.vars apart W args.toList ds gs before)
    (hres : ∀ (b : Nat) (sp : Nat → Bool) (hd : Bool), DataW.TrodAll enc P W' b sp hd f.resultTypes.toList (v.resultList f.resultTypes.size) (s.fn H (ds ++ gs)).results [])
    (hargs : ∀ sp : Nat → Bool, (∀ p ∈ before, sp p.block = true) → DataW.TrodAll enc P W' 0 sp true f.params.toList args.toList (s.fn H (ds ++ gs)).args pa)
    (hvars : ∀ sp : Nat → Bool, (∀ p ∈ before, sp p.block = true) → DataW.TrodVars enc P W' sp s.vars (s.fn H (ds ++ gs)).vars pv)
    (hps : before = pa ++ pv) (hb : Ext W W')
    (hok : ∀ (j : Nat) (t : TypeId) (r : Value), f.resultTypes[j]? = some t → (v.resultList f.resultTypes.size)[j]? = some r → Value.okWide P W' .any 0 t r) :
    s.post enc P f apart fresh handsOn again W args v W' := by
  have hlt : ∀ p ∈ before, p.block < W.heap.size := fun p hp => hW.lt p hp
  have hold : ∀ p ∈ before, (fun b => decide (b < W.heap.size)) p.block = true := fun p hp => by simpa using hlt p hp
  refine ⟨ds, gs, before, [], pa, pv, hW, hres _ _ _, hargs _ hold, hvars _ hold, World.keptBut_mono (fun p hp => ⟨hp, ?_⟩) (hb.frame (· ∈ before)), fun _ => ?_⟩
  · rw [hps, List.mem_append] at hp
    exact Or.inr hp
  · obtain ⟨_, _, _, _, _, hz, hn⟩ := hW
    refine ⟨hok, _, _, ([] ++ pa) ++ pv, ⟨[] ++ pa, pv, trodAll_append (hargs _ (fun _ _ => rfl)) (hres _ _ _), hvars _ (fun _ _ => rfl), rfl, ?_, ?_⟩, ?_⟩
    · intro b off hp
      have hin : MemPlace.cell b off ∈ before := by rw [hps]; simpa using hp
      rw [hb.frozen (hlt _ hin)]
      exact hz b off hin
    · intro ha
      have := hn ha
      rw [hps] at this
      simpa using this
    · intro p hp _
      rw [hps]
      simpa using hp
end
end Go.Sl
/- Arguments: a slice as it is handed in. Holds for every program. -/
namespace Go.Sl
open Go.ChangeShapes Go.WideShapes Go.RowKit Go.Deep
theorem flat_get {α : Type} {sz : Nat} (hsz : 0 < sz) : ∀ (rows : List (List α)), (∀ r ∈ rows, r.length = sz) → ∀ q, rows.flatten[q]? = (rows[q / sz]?).bind fun r => r[q % sz]? := by
  intro rows
  induction rows with
  | nil => intro _ q; simp
  | cons r rows ih =>
    intro h q
    have hr := h r (List.mem_cons_self ..)
    rw [List.flatten_cons]
    by_cases hq : q < sz
    · rw [List.getElem?_append_left (by omega), Nat.div_eq_of_lt hq, Nat.mod_eq_of_lt hq]; rfl
    · rw [List.getElem?_append_right (by omega), hr, ih (fun x hx => h x (List.mem_cons_of_mem _ hx))]
      obtain ⟨p, rfl⟩ : ∃ p, q = p + sz := ⟨q - sz, by omega⟩
      rw [Nat.add_sub_cancel, Nat.add_div_right _ hsz, Nat.add_mod_right]; rfl
theorem flat_len {α : Type} {sz : Nat} : ∀ (rows : List (List α)), (∀ r ∈ rows, r.length = sz) → rows.flatten.length = rows.length * sz := by
  intro rows
  induction rows with
  | nil => intro _; simp
  | cons r rows ih =>
    intro h
    rw [List.flatten_cons, List.length_append, ih (fun x hx => h x (List.mem_cons_of_mem _ hx)), h r (List.mem_cons_self ..), List.length_cons, Nat.succ_mul, Nat.add_comm]
theorem cell_spot {w : World} {a : Addr} {v : Value} (h : w.cell? a = some v) : a = ⟨a.block, a.off, none⟩ := by
  unfold World.cell? at h
  split at h
  · split at h
    · cases h
    · rename_i hs
      cases a with
      | mk b o s => cases s with
        | none => rfl
        | some x => exact absurd rfl hs
  · cases h
theorem add_off {b off n : Nat} : (⟨b, off, none⟩ : Addr).add n = ⟨b, off + n, none⟩ := by
  unfold Addr.add
  split
  · rename_i h; rw [h, Nat.add_zero]
  · rfl
section
variable {H : Type} {enc : TypeId × Value → H} {P : Program} {W : World} {t e : TypeId} {sz : Nat}
theorem open_row {fuel : Nat} {cs : List Value} {x : DataW H × List MemPlace} (ht : P.underlying t = some (.slice e)) (hsz : P.cellsOf e = sz) (h0 : 0 < sz) (h : DataW.trod enc P W 0 (fun _ => true) true fuel t cs = some x) :
    ∃ (a : Option Addr) (n cap : Nat) (rows : List (List Value)), cs = [.slice a n cap] ∧ cap ≤ maxLen ∧ rows.length = n ∧ (∀ r ∈ rows, r.length = sz) ∧ Rd W a n cap sz rows.flatten ∧
      ∀ r ∈ rows, ∃ (fuel : Nat) (x : DataW H × List MemPlace), DataW.trod enc P W 0 (fun _ => true) true fuel e r = some x := by
  rcases open_slice ht h with ⟨rfl, rfl⟩ | ⟨a, len, cap, m, n, D, Pl, rfl, hb, hl, hm, hmm, hx, hi⟩
  · exact ⟨none, 0, 0, [], rfl, Nat.zero_le _, rfl, (fun r hr => by cases hr), ⟨by simp, Nat.le_refl _, fun h => absurd h (Nat.lt_irrefl 0)⟩, fun r hr => by cases hr⟩
  · have hm' : m = cap := by simpa using hmm
    subst hm'
    have hall : ∀ i, ∃ cs' : List Value, i < m → W.cells? 0 (a.add (i * sz)) sz = some cs' ∧ DataW.trod enc P W 0 (fun _ => true) true n e cs' = some (D i, Pl i) := fun i => by
      by_cases hlt : i < m
      · obtain ⟨c, h1, h2⟩ := hi i hlt
        rw [hsz] at h1
        exact ⟨c, fun _ => ⟨h1, h2⟩⟩
      · exact ⟨[], fun h => absurd h hlt⟩
    obtain ⟨f, hf⟩ := Classical.axiomOfChoice hall
    have hrl : ∀ r ∈ (List.range len).map f, r.length = sz := fun r hr => by
      obtain ⟨i, hi, rfl⟩ := List.mem_map.1 hr
      exact (World.cells?_some (hf i (by have := List.mem_range.1 hi; omega)).1).2.1
    refine ⟨some a, len, m, (List.range len).map f, rfl, hm, by simp, hrl, ⟨?_, hl, fun hn => ?_⟩, fun r hr => ?_⟩
    · rw [flat_len _ hrl]; simp
    · have h00 := (World.cells?_some (hf 0 (by omega)).1).2.2 0 h0
      have hl0 := (World.cells?_some (hf 0 (by omega)).1).2.1
      rw [Nat.zero_mul] at h00
      have ha := cell_spot (w := W) (a := a) (v := (f 0)[0]'(by omega)) (by
        have e1 : (a.add 0).add 0 = a := rfl
        rw [e1] at h00; rw [h00]; exact List.getElem?_eq_getElem _)
      refine ⟨a.block, a.off, congrArg some ha, fun q u hq => ?_⟩
      rw [flat_get h0 _ hrl] at hq
      have hql : q / sz < len := by
        rcases Nat.lt_or_ge (q / sz) len with x | x
        · exact x
        · rw [List.getElem?_eq_none (by simpa using x)] at hq; cases hq
      have hqq : ((List.range len).map f)[q / sz]? = some (f (q / sz)) := by
        rw [List.getElem?_map, List.getElem?_range hql]; rfl
      rw [hqq] at hq
      have hc := (World.cells?_some (hf (q / sz) (by omega)).1).2.2 (q % sz) (Nat.mod_lt _ h0)
      rw [ha, add_off, add_off] at hc
      have hd := Nat.div_add_mod q sz
      rw [Nat.mul_comm] at hd
      rw [Nat.add_assoc, hd] at hc
      rw [hc]; exact hq
    · obtain ⟨i, hi, rfl⟩ := List.mem_map.1 hr
      exact ⟨n, _, (hf i (by have := List.mem_range.1 hi; omega)).2⟩
theorem Ext.trod {W' : World} {v : Value} {d : DataW H} {ps : List MemPlace} (hl : laidOutB P = true) (hr : P.readableRec t = true) (hrow : t < P.types.size) (h : DataW.Trod enc P W 0 (fun _ => true) true t v d ps) (hE : Ext W W')
    (hlt : ∀ x ∈ ps, x.block < W.heap.size) {sp : Nat → Bool} (hsp : ∀ x ∈ ps, sp x.block = true) : DataW.Trod enc P W' 0 sp true t v d ps :=
  WideElems.Trod_stays hl hr hrow h (fun x hx => hE.below.same (hlt x hx)) hsp
end
end Go.Sl
/- Arguments: how much they weigh, slice by slice, to the bottom; a slice and a struct as they are handed in. Holds for every program. -/
namespace Go.Sl
open Go.ChangeShapes Go.WideShapes Go.RowKit Go.Deep
/-- Each string and slice in a datum is of a size that a process can hold. -/
def Fit {H : Type} (P : Program) (t : TypeId) (d : DataW H) : Prop := ∀ n ∈ DataW.weights P t d, n ≤ reachBytes
section
variable {H : Type} {enc : TypeId × Value → H} {P : Program} {W : World} {t e : TypeId} {sz : Nat}
theorem Fit.of {ts : List TypeId} {ds : List (DataW H)} (h : (DataW.weightsEach P ts ds).all (· ≤ reachBytes) = true) {j : Nat} {d : DataW H} (ht : ts[j]? = some t) (hd : ds[j]? = some d) : Fit P t d := fun n hn => by
  have := List.all_eq_true.1 h _ (DataW.weights_mem_each ht hd n hn)
  simpa using this
theorem weightsAll_mem {d : DataW H} : ∀ {l : List (DataW H)}, d ∈ l → ∀ n ∈ DataW.weights P e d, n ∈ DataW.weightsAll P e l := by
  intro l
  induction l with
  | nil => intro h; cases h
  | cons x r ih =>
    intro h n hn
    simp only [DataW.weightsAll, List.mem_append]
    rcases List.mem_cons.1 h with q | q
    · subst q; exact .inl hn
    · exact .inr (ih q n hn)
theorem Fit.slice {elems spare : List (DataW H)} (hu : P.underlying t = some (.slice e)) (h : Fit P t (.slice elems spare)) : (elems.length + spare.length) * P.bytesOf e ≤ reachBytes ∧ (∀ d ∈ elems, Fit P e d) ∧ ∀ d ∈ spare, Fit P e d := by
  unfold Fit at h
  simp only [DataW.weights, hu, List.mem_cons, List.mem_append] at h
  exact ⟨h _ (.inl rfl), fun d hd n hn => h n (.inr (.inl (weightsAll_mem hd n hn))), fun d hd n hn => h n (.inr (.inr (weightsAll_mem hd n hn)))⟩
theorem Fit.field {fs : Array Field} {parts : List (DataW H)} (hu : P.underlying t = some (.struct fs)) (h : Fit P t (.agg parts)) {i : Nat} {f : Field} {d : DataW H} (hf : fs[i]? = some f) (hd : parts[i]? = some d) : Fit P f.type d := fun n hn => by
  refine h n ?_
  simp only [DataW.weights, hu]
  exact DataW.weights_mem_each (j := i) (by simp [hf]) hd n hn
/-- A slice as it is handed in, with its size. -/
theorem open_rowF {fuel : Nat} {cs : List Value} {x : DataW H × List MemPlace} (ht : P.underlying t = some (.slice e)) (hsz : P.cellsOf e = sz) (h0 : 0 < sz) (h : DataW.trod enc P W 0 (fun _ => true) true fuel t cs = some x) (hw : Fit P t x.1) :
    ∃ (a : Option Addr) (n cap : Nat) (rows : List (List Value)), cs = [.slice a n cap] ∧ cap ≤ maxLen ∧ cap * P.bytesOf e ≤ reachBytes ∧ rows.length = n ∧ (∀ r ∈ rows, r.length = sz) ∧ Rd W a n cap sz rows.flatten ∧
      ∀ r ∈ rows, ∃ (fuel : Nat) (x : DataW H × List MemPlace), DataW.trod enc P W 0 (fun _ => true) true fuel e r = some x ∧ Fit P e x.1 := by
  rcases open_slice ht h with ⟨rfl, rfl⟩ | ⟨a, len, cap, m, n, D, Pl, rfl, hb, hl, hm, hmm, hx, hi⟩
  · exact ⟨none, 0, 0, [], rfl, Nat.zero_le _, by rw [Nat.zero_mul]; exact Nat.zero_le _, rfl, (fun r hr => by cases hr), ⟨by simp, Nat.le_refl _, fun h => absurd h (Nat.lt_irrefl 0)⟩, fun r hr => by cases hr⟩
  · have hm' : m = cap := by simpa using hmm
    subst hm'
    have hall : ∀ i, ∃ cs' : List Value, i < m → W.cells? 0 (a.add (i * sz)) sz = some cs' ∧ DataW.trod enc P W 0 (fun _ => true) true n e cs' = some (D i, Pl i) := fun i => by
      by_cases hlt : i < m
      · obtain ⟨c, h1, h2⟩ := hi i hlt
        rw [hsz] at h1
        exact ⟨c, fun _ => ⟨h1, h2⟩⟩
      · exact ⟨[], fun h => absurd h hlt⟩
    obtain ⟨f, hf⟩ := Classical.axiomOfChoice hall
    have hrl : ∀ r ∈ (List.range len).map f, r.length = sz := fun r hr => by
      obtain ⟨i, hi, rfl⟩ := List.mem_map.1 hr
      exact (World.cells?_some (hf i (by have := List.mem_range.1 hi; omega)).1).2.1
    rw [hx] at hw
    obtain ⟨w1, w2, w3⟩ := hw.slice ht
    have hcap : m * P.bytesOf e ≤ reachBytes := by
      simp only [List.length_map, List.length_range] at w1
      rwa [Nat.add_sub_cancel' hl] at w1
    refine ⟨some a, len, m, (List.range len).map f, rfl, hm, hcap, by simp, hrl, ⟨?_, hl, fun hn => ?_⟩, fun r hr => ?_⟩
    · rw [flat_len _ hrl]; simp
    · have h00 := (World.cells?_some (hf 0 (by omega)).1).2.2 0 h0
      have hl0 := (World.cells?_some (hf 0 (by omega)).1).2.1
      rw [Nat.zero_mul] at h00
      have ha := cell_spot (w := W) (a := a) (v := (f 0)[0]'(by omega)) (by
        have e1 : (a.add 0).add 0 = a := rfl
        rw [e1] at h00; rw [h00]; exact List.getElem?_eq_getElem _)
      refine ⟨a.block, a.off, congrArg some ha, fun q u hq => ?_⟩
      rw [flat_get h0 _ hrl] at hq
      have hql : q / sz < len := by
        rcases Nat.lt_or_ge (q / sz) len with x | x
        · exact x
        · rw [List.getElem?_eq_none (by simpa using x)] at hq; cases hq
      have hqq : ((List.range len).map f)[q / sz]? = some (f (q / sz)) := by
        rw [List.getElem?_map, List.getElem?_range hql]; rfl
      rw [hqq] at hq
      have hc := (World.cells?_some (hf (q / sz) (by omega)).1).2.2 (q % sz) (Nat.mod_lt _ h0)
      rw [ha, add_off, add_off] at hc
      have hd := Nat.div_add_mod q sz
      rw [Nat.mul_comm] at hd
      rw [Nat.add_assoc, hd] at hc
      rw [hc]; exact hq
    · obtain ⟨i, hi, rfl⟩ := List.mem_map.1 hr
      have hil := List.mem_range.1 hi
      exact ⟨n, _, (hf i (by omega)).2, w2 _ (List.mem_map.2 ⟨i, hi, rfl⟩)⟩
/-- A struct of one-celled fields as it is handed in. -/
theorem open_structF {fs : Array Field} {fuel : Nat} {r : List Value} {x : DataW H × List MemPlace} (hs : P.underlying t = some (.struct fs)) (hone : oneCellFields P fs = true) (hl : r.length = fs.size)
    (h : DataW.trod enc P W 0 (fun _ => true) true fuel t r = some x) (hw : Fit P t x.1) :
    ∃ n, ∀ (i : Nat) (f : Field) (c : Value), fs[i]? = some f → r[i]? = some c → ∃ y, DataW.trod enc P W 0 (fun _ => true) true n f.type [c] = some y ∧ Fit P f.type y.1 := by
  obtain ⟨xs, n, _, rfl, _, hlen, hg⟩ := DataW.trod_struct hs h
  refine ⟨n, fun i f c hf hc => ?_⟩
  obtain ⟨o, k⟩ := hone_of hone i f hf
  have h1 := hg i f hf
  have hi : i < r.length := (List.getElem?_eq_some_iff.1 hc).1
  have hd : (r.drop f.offset).take (P.cellsOf f.type) = [c] := by
    rw [o, k, List.drop_eq_getElem_cons hi]
    rw [List.getElem?_eq_getElem hi] at hc
    injection hc with hc
    rw [hc]; rfl
  rw [hd] at h1
  have hxi : i < xs.length := by omega
  rw [List.getElem?_eq_getElem hxi] at h1
  exact ⟨_, h1, hw.field (i := i) hs hf (by rw [List.getElem?_map, List.getElem?_eq_getElem hxi]; rfl)⟩
/-- A list of whole numbers as it is handed in. -/
theorem open_intsF {fuel : Nat} {v : Value} {x : DataW H × List MemPlace} (ht : P.underlying t = some (.slice e)) (he : P.underlying e = some (.int .i64)) (hsz : P.cellsOf e = 1) (hb : P.bytesOf e = 8)
    (h : DataW.trod enc P W 0 (fun _ => true) true fuel t [v] = some x) (hw : Fit P t x.1) :
    ∃ (a : Option Addr) (n cap : Nat) (l : List Int), v = .slice a n cap ∧ cap * 8 ≤ reachBytes ∧ Rd W a n cap 1 (l.map fun n => Value.int .i64 n) ∧ ∀ k ∈ l, (Lit.int .i64 k).wf = true := by
  obtain ⟨a, n, cap, rows, hc, hm, hbb, hrl, hr1, hR, hall⟩ := open_rowF ht hsz (by decide) h hw
  simp only [List.cons.injEq, and_true] at hc
  subst hc
  have key : ∀ rows : List (List Value), (∀ r ∈ rows, r.length = 1) → (∀ r ∈ rows, ∃ (fuel : Nat) (x : DataW H × List MemPlace), DataW.trod enc P W 0 (fun _ => true) true fuel e r = some x ∧ Fit P e x.1) →
      ∃ l : List Int, rows.flatten = l.map (fun n => Value.int .i64 n) ∧ ∀ k ∈ l, (Lit.int .i64 k).wf = true := by
    intro rows
    induction rows with
    | nil => intro _ _; exact ⟨[], rfl, fun k hk => by cases hk⟩
    | cons r rows ih =>
      intro h1 h2
      obtain ⟨l, hl, hlw⟩ := ih (fun q hq => h1 q (List.mem_cons_of_mem _ hq)) (fun q hq => h2 q (List.mem_cons_of_mem _ hq))
      obtain ⟨fuel, x, hx, _⟩ := h2 r (List.mem_cons_self ..)
      obtain ⟨z, rfl, _, hzw⟩ := DataW.trod_int he hx
      refine ⟨z :: l, by rw [List.flatten_cons, hl]; rfl, fun k hk => ?_⟩
      rcases List.mem_cons.1 hk with rfl | hk
      · exact hzw
      · exact hlw k hk
  obtain ⟨l, hl, hlw⟩ := key rows hr1 hall
  rw [hl] at hR
  exact ⟨a, n, cap, l, rfl, by rw [hb] at hbb; exact hbb, hR, hlw⟩
/-- Bytes as they are handed in. -/
theorem open_bytesF {fuel : Nat} {v : Value} {x : DataW H × List MemPlace} (ht : P.underlying t = some (.slice e)) (he : P.underlying e = some (.int .u8)) (hsz : P.cellsOf e = 1) (hb : P.bytesOf e = 1)
    (h : DataW.trod enc P W 0 (fun _ => true) true fuel t [v] = some x) (hw : Fit P t x.1) :
    ∃ (a : Option Addr) (n cap : Nat) (l : List UInt8), v = .slice a n cap ∧ cap ≤ reachBytes ∧ Rd W a n cap 1 (l.map fun b => Value.int .u8 b.toNat) := by
  obtain ⟨a, n, cap, rows, hc, hm, hbb, hrl, hr1, hR, hall⟩ := open_rowF ht hsz (by decide) h hw
  simp only [List.cons.injEq, and_true] at hc
  subst hc
  have key : ∀ rows : List (List Value), (∀ r ∈ rows, r.length = 1) → (∀ r ∈ rows, ∃ (fuel : Nat) (x : DataW H × List MemPlace), DataW.trod enc P W 0 (fun _ => true) true fuel e r = some x ∧ Fit P e x.1) →
      ∃ l : List UInt8, rows.flatten = l.map fun b => Value.int .u8 b.toNat := by
    intro rows
    induction rows with
    | nil => intro _ _; exact ⟨[], rfl⟩
    | cons r rows ih =>
      intro h1 h2
      obtain ⟨l, hl⟩ := ih (fun q hq => h1 q (List.mem_cons_of_mem _ hq)) (fun q hq => h2 q (List.mem_cons_of_mem _ hq))
      obtain ⟨fuel, x, hx, _⟩ := h2 r (List.mem_cons_self ..)
      obtain ⟨z, rfl, _, w3⟩ := DataW.trod_int he hx
      have h5 : IntKind.min .u8 = 0 := by decide
      have h6 : IntKind.max .u8 = 255 := by decide
      simp only [Lit.wf, Bool.and_eq_true, decide_eq_true_eq, h5, h6] at w3
      refine ⟨UInt8.ofNat z.toNat :: l, ?_⟩
      have e : ((UInt8.ofNat z.toNat).toNat : Int) = z := by
        rw [UInt8.toNat_ofNat_of_lt' (by show z.toNat < 256; omega)]; omega
      rw [List.flatten_cons, hl, List.map_cons, e]; rfl
  obtain ⟨l, hl⟩ := key rows hr1 hall
  rw [hl] at hR
  exact ⟨a, n, cap, l, rfl, by rw [hb, Nat.mul_one] at hbb; exact hbb, hR⟩
end
end Go.Sl
/- Bits of whole numbers; arrays; copy from a text; results that lie in cells. Holds for every program. -/
namespace Go.Sl
section
variable {P : Program} {ρ : Fr} {w w' w0 : World} {ops : Array Oper} {op : Op} {ty : TypeId} {pos : String} {af : Array Edge} {g : Option (Nat × Bool)} {l : List Oper} {K : Fr → World → Prop} {v : Value} {L : List HP}
variable {a a' : Option Addr} {n n' cap cap' sz e t yt bytes : Nat} {cs ds : List Value} {x y : Operand}

/-! ### Bits -/
theorem wrap_u32 (m : Nat) (h : m < 4294967296) : IntKind.u32.wrap (m : Int) = m := by
  rw [IntKind.wrap_u32]; omega
theorem ofInt32 (m : Nat) : BitVec.ofInt 32 (m : Int) = BitVec.ofNat 32 m := by simp
theorem x_xor32 {c d : UInt32} (hx : ev ρ x = .int .u32 c.toNat) (hy : ev ρ y = .int .u32 d.toNat) : Ev1 P (.binOp .xor t x y yt) ty ρ w (.int .u32 (c ^^^ d).toNat) w := fun _ _ _ _ => by
  have e : IntKind.u32.bits = 32 := rfl
  have h : (Op.intBits .xor .u32 (c.toNat : Int) (d.toNat : Int)) = pure (.int .u32 ((c ^^^ d).toNat : Int)) := by
    show (pure (.int .u32 (IntKind.u32.wrap ((BitVec.ofInt 32 (c.toNat : Int) ^^^ BitVec.ofInt 32 (d.toNat : Int)).toNat))) : Sem Value) = _
    rw [ofInt32, ofInt32, BitVec.toNat_xor, BitVec.toNat_ofNat, BitVec.toNat_ofNat, Nat.mod_eq_of_lt c.toNat_lt, Nat.mod_eq_of_lt d.toNat_lt, ← UInt32.toNat_xor, wrap_u32 _ (UInt32.toNat_lt _)]
  simp [execOp, hx, hy, eqGuard, binOp, h]
theorem x_and32 {c d : UInt32} (hx : ev ρ x = .int .u32 c.toNat) (hy : ev ρ y = .int .u32 d.toNat) : Ev1 P (.binOp .and t x y yt) ty ρ w (.int .u32 (c &&& d).toNat) w := fun _ _ _ _ => by
  have h : (Op.intBits .and .u32 (c.toNat : Int) (d.toNat : Int)) = pure (.int .u32 ((c &&& d).toNat : Int)) := by
    show (pure (.int .u32 (IntKind.u32.wrap ((BitVec.ofInt 32 (c.toNat : Int) &&& BitVec.ofInt 32 (d.toNat : Int)).toNat))) : Sem Value) = _
    rw [ofInt32, ofInt32, BitVec.toNat_and, BitVec.toNat_ofNat, BitVec.toNat_ofNat, Nat.mod_eq_of_lt c.toNat_lt, Nat.mod_eq_of_lt d.toNat_lt, ← UInt32.toNat_and, wrap_u32 _ (UInt32.toNat_lt _)]
  simp [execOp, hx, hy, eqGuard, binOp, h]
theorem x_not32 {c : UInt32} (hx : ev ρ x = .int .u32 c.toNat) : Ev1 P (.unOp .xor t x) ty ρ w (.int .u32 (c ^^^ 4294967295).toNat) w := fun _ _ _ _ => by
  have h : (Op.unary .xor (.int .u32 (c.toNat : Int))) = pure (.int .u32 ((c ^^^ 4294967295).toNat : Int)) := by
    show (pure (.int .u32 (IntKind.u32.wrap ((BitVec.ofInt 32 (4294967295 : Int) ^^^ BitVec.ofInt 32 (c.toNat : Int)).toNat))) : Sem Value) = _
    rw [ofInt32, show (BitVec.ofInt 32 (4294967295 : Int)) = BitVec.ofNat 32 (4294967295 : UInt32).toNat from rfl, BitVec.toNat_xor, BitVec.toNat_ofNat, BitVec.toNat_ofNat, Nat.mod_eq_of_lt c.toNat_lt, Nat.mod_eq_of_lt (UInt32.toNat_lt _), Nat.xor_comm, ← UInt32.toNat_xor, wrap_u32 _ (UInt32.toNat_lt _)]
  simp [execOp, hx, h]
theorem x_orN {m k : Nat} (hx : ev ρ x = .int .u32 m) (hy : ev ρ y = .int .u32 k) (hm : m < 4294967296) (hk : k < 4294967296) : Ev1 P (.binOp .or t x y yt) ty ρ w (.int .u32 ((m ||| k : Nat) : Int)) w := fun _ _ _ _ => by
  have h : (Op.intBits .or .u32 (m : Int) (k : Int)) = pure (.int .u32 ((m ||| k : Nat) : Int)) := by
    show (pure (.int .u32 (IntKind.u32.wrap ((BitVec.ofInt 32 (m : Int) ||| BitVec.ofInt 32 (k : Int)).toNat))) : Sem Value) = _
    rw [ofInt32, ofInt32, BitVec.toNat_or, BitVec.toNat_ofNat, BitVec.toNat_ofNat, Nat.mod_eq_of_lt hm, Nat.mod_eq_of_lt hk, wrap_u32 _ (Nat.or_lt_two_pow (n := 32) hm hk)]
  simp [execOp, hx, hy, eqGuard, binOp, h]
theorem x_shr {k k' : IntKind} {m s : Nat} (hx : ev ρ x = .int k m) (hy : ev ρ y = .int k' s) (hs : s ≤ k.bits) : Ev1 P (.binOp .shr t x y yt) ty ρ w (.int k ((m / 2 ^ s : Nat) : Int)) w := fun _ _ _ _ => by
  have h : (Op.shift .shr k (m : Int) k' (s : Int)) = pure (.int k ((m / 2 ^ s : Nat) : Int)) := by
    unfold Op.shift
    rw [if_neg (by omega)]
    simp only [Int.toNat_natCast, Nat.min_eq_left hs]
    congr 2
    rw [Int.fdiv_eq_ediv_of_nonneg _ (by exact_mod_cast Nat.zero_le _)]
    simp
  simp [execOp, hx, hy, eqGuard, binOp, h]
theorem x_shlN {k' : IntKind} {m s : Nat} (hx : ev ρ x = .int .u32 m) (hy : ev ρ y = .int k' s) (hs : s ≤ 32) (hb : m * 2 ^ s < 4294967296) : Ev1 P (.binOp .shl t x y yt) ty ρ w (.int .u32 ((m * 2 ^ s : Nat) : Int)) w := fun _ _ _ _ => by
  have h : (Op.shift .shl .u32 (m : Int) k' (s : Int)) = pure (.int .u32 ((m * 2 ^ s : Nat) : Int)) := by
    unfold Op.shift
    rw [if_neg (by omega)]
    have e : IntKind.u32.bits = 32 := rfl
    simp only [Int.toNat_natCast, e, Nat.min_eq_left hs]
    have h2 := wrap_u32 _ hb
    simp only [Int.natCast_mul, Int.natCast_pow] at h2 ⊢
    show (pure (.int .u32 (IntKind.u32.wrap ((m : Int) * 2 ^ s))) : Sem Value) = _
    rw [show ((2 : Nat) : Int) = 2 from rfl] at h2
    rw [h2]; rfl
  show (execOp (ev ρ) ⟨_, .binOp .shl t x y yt, ty, _, _, _⟩).run P w = _
  have h2 : (binOp .shl t (.int .u32 (m : Int)) (.int k' (s : Int))) = pure (.int .u32 ((m * 2 ^ s : Nat) : Int)) := h
  simp only [execOp, hx, hy, Sem.run_bind, h2, Sem.run_pure, Result.andThen_ok]
  simp [eqGuard]

/-! ### Arrays -/
theorem x_arrPtr {arr : TypeId} {m : Nat} (hu : P.underlying arr = some (.array m e)) (hx : ev ρ x = .slice a n cap) (hn : m ≤ n) : Ev1 P (.sliceToArrayPointer arr x) ty ρ w (.pointer a) w := fun _ _ _ _ => by
  simp [execOp, hx, Instr.arrayAt, run_und hu, Nat.not_lt.2 hn]
theorem x_loadPA {m : Nat} (h1 : aggB P t m = true) (hx : ev ρ x = .pointer a) (hr : Rd w a n cap 1 cs) (hn : m ≤ n) (h0 : 0 < m) : Ev1 P (.load t x) ty ρ w (.agg (cs.take m).toArray) w := by
  obtain ⟨b, off, ha, hc⟩ := hr.2.2 (by omega)
  subst ha
  have hl := hr.1
  refine x_loadA (cs := cs.take m) h1 hx (by rw [List.length_take]; omega) fun j u hj => hc j u ?_
  rw [List.getElem?_take] at hj
  split at hj
  · exact hj
  · cases hj
theorem x_loadPB {m : Nat} (h1 : aggB P t m = true) (hx : ev ρ x = .pointer a) (hr : Rd w a n cap 1 cs) (hn : n = m) (h0 : 0 < m) : Ev1 P (.load t x) ty ρ w (.agg cs.toArray) w := by
  have h := x_loadPA (ty := ty) h1 hx hr (Nat.le_of_eq hn.symm) h0
  rwa [List.take_of_length_le (by rw [hr.1]; omega)] at h
theorem x_sliceArr {m b : Nat} (hu : P.underlying t = some (.array m e)) (hz : (P.info? e).isSome = true) (hx : ev ρ x = .pointer (some ⟨b, 0, none⟩)) : Ev1 P (.slice t x none none none) ty ρ w (.slice (some ⟨b, 0, none⟩) m m) w := fun _ _ _ _ => by
  obtain ⟨q, hq⟩ := Option.isSome_iff_exists.1 hz
  have e0 : (⟨b, 0, none⟩ : Addr).add 0 = ⟨b, 0, none⟩ := rfl
  simp [execOp, hx, Instr.sliceAt, run_und hu, Instr.sureAddr, Instr.sliceBounds, run_sizeOf hq, e0]
theorem x_indexArr {arr : TypeId} {m b off : Nat} {k : IntKind} {j : Nat} (hu : P.underlying arr = some (.array m e)) (hz : ((P.info? e).map fun i => i.size) = some sz) (hx : ev ρ x = .pointer (some ⟨b, off, none⟩)) (hi : ev ρ y = .int k j) (hj : j < m) :
    Ev1 P (.indexAddr arr x y) ty ρ w (.pointer (some ⟨b, off + j * sz, none⟩)) w := fun _ _ _ _ => by
  cases hq : P.info? e with
  | none => rw [hq] at hz; cases hz
  | some q =>
    rw [hq] at hz
    simp only [Option.map_some, Option.some.injEq] at hz
    have e1 : (0 : Int) ≤ (j : Int) ∧ (j : Int) < (m : Int) := ⟨by omega, by omega⟩
    simp [execOp, hx, hi, Instr.indexAt, asIntOf, run_und hu, Instr.sureAddr, e1, run_sizeOf hq, hz, add_at]
    intro hjm; omega
theorem run_loop_all {α : Type} (body : Nat → Sem (ForInStep (Option α × Unit))) (w : World) : ∀ (m : Nat) (k : Nat), (∀ i, k ≤ i → i < k + m → (body i).run P w = .ok (.yield (none, ())) w) →
    (forIn (m := Sem) (List.range' k m) ((none, ()) : Option α × Unit) fun i _ => body i).run P w = .ok (none, ()) w := by
  intro m
  induction m with
  | zero => intro k _; simp
  | succ m ih =>
    intro k h
    rw [List.range'_succ, List.forIn_cons]
    simp only [Sem.run_bind, h k (Nat.le_refl _) (by omega), Result.andThen_ok]
    exact ih (k + 1) fun i h1 h2 => h i (by omega) (by omega)
theorem run_loop_stop {α : Type} (body : Nat → Sem (ForInStep (Option α × Unit))) (w : World) (r : α) : ∀ (m : Nat) (k j : Nat), k ≤ j → j < k + m → (∀ i, k ≤ i → i < j → (body i).run P w = .ok (.yield (none, ())) w) → (body j).run P w = .ok (.done (some r, ())) w →
    (forIn (m := Sem) (List.range' k m) ((none, ()) : Option α × Unit) fun i _ => body i).run P w = .ok (some r, ()) w := by
  intro m
  induction m with
  | zero => intro k j h1 h2; omega
  | succ m ih =>
    intro k j h1 h2 h hj
    rw [List.range'_succ, List.forIn_cons]
    rcases Nat.eq_or_lt_of_le h1 with q | q
    · subst q
      simp only [Sem.run_bind, hj, Result.andThen_ok, Sem.run_pure]
    · simp only [Sem.run_bind, h k (Nat.le_refl _) q, Result.andThen_ok]
      exact ih (k + 1) j (by omega) (by omega) (fun i h1 h2 => h i (by omega) h2) hj
/-- Two arrays of whole numbers, held against each other. -/
theorem run_equalArr {k : IntKind} {xs ys : List Int} (hu : P.underlying t = some (.array n e)) (hz : ((P.info? e).map fun i => i.size) = some 1) (he : P.underlying e = some (.int k)) (hx : xs.length = n) (hy : ys.length = n) :
    (Op.equal t (.agg (xs.map (Value.int k)).toArray) (.agg (ys.map (Value.int k)).toArray)).run P w = .ok (decide (xs = ys)) w := by
  cases hq : P.info? e with
  | none => rw [hq] at hz; cases hz
  | some q =>
    rw [hq] at hz
    simp only [Option.map_some, Option.some.injEq] at hz
    have hpart : ∀ (zs : List Int) (i : Nat) (z : Int), zs[i]? = some z → (part e (zs.map (Value.int k)).toArray (i * 1)).run P w = .ok (.int k z) w := fun zs i z hi => by
      unfold part isAgg
      have hcell : ((zs.map (Value.int k)).toArray)[i * 1]? = some (.int k z) := by simp [hi]
      simp only [Sem.run_bind, run_und he, Result.andThen_ok, Sem.run_pure, Bool.false_eq_true, if_false, hcell]
    have heq : ∀ (u v : Int), (Op.equalIn (9998 + 1) e (.int k u) (.int k v)).run P w = .ok (u == v) w := fun u v => by
      rw [Op.equalIn]
      simp only [Sem.run_bind, run_und he, Result.andThen_ok]
      simp
    show (Op.equalIn (9999 + 1) t _ _).run P w = _
    rw [Op.equalIn]
    simp only [Sem.run_bind, run_und hu, Result.andThen_ok, run_sizeOf hq, hz]
    by_cases hxy : xs = ys
    · subst hxy
      have hb := run_loop_all (P := P) (α := Bool) (fun i => do
          if !(← Op.equalIn 9999 e (← part e (xs.map (Value.int k)).toArray (i * 1)) (← part e (xs.map (Value.int k)).toArray (i * 1))) = true then pure (ForInStep.done (some false, ())) else pure (ForInStep.yield (none, ()))) w n 0 (fun i _ hi => by
        have h1 : xs[i]? = some xs[i] := List.getElem?_eq_getElem (by omega)
        simp only [Sem.run_bind, hpart xs i _ h1, Result.andThen_ok, heq]
        simp)
      simp only [Std.Legacy.Range.forIn_eq_forIn_range', Std.Legacy.Range.size, Nat.sub_zero, Nat.add_sub_cancel, Nat.div_one]
      simp at hb ⊢
      rw [hb]
      rfl
    · rw [decide_eq_false hxy]
      have hex : ∃ j, j < n ∧ xs[j]? ≠ ys[j]? := Classical.byContradiction fun h => hxy (List.ext_getElem? fun i => by
        by_cases hi : i < n
        · exact Classical.byContradiction fun q => h ⟨i, hi, q⟩
        · rw [List.getElem?_eq_none (by omega), List.getElem?_eq_none (by omega)])
      obtain ⟨j, ⟨hj, hne⟩, hmin⟩ : ∃ j, (j < n ∧ xs[j]? ≠ ys[j]?) ∧ ∀ i, i < j → ¬ (i < n ∧ xs[i]? ≠ ys[i]?) := by
        obtain ⟨j, hj⟩ := hex
        induction j using Nat.strongRecOn with
        | ind j ih =>
          by_cases h : ∃ i, i < j ∧ (i < n ∧ xs[i]? ≠ ys[i]?)
          · obtain ⟨i, hi, hi2⟩ := h; exact ih i hi hi2
          · exact ⟨j, hj, fun i hi hq => h ⟨i, hi, hq⟩⟩
      have hb := run_loop_stop (P := P) (α := Bool) (fun i => do
          if !(← Op.equalIn 9999 e (← part e (xs.map (Value.int k)).toArray (i * 1)) (← part e (ys.map (Value.int k)).toArray (i * 1))) = true then pure (ForInStep.done (some false, ())) else pure (ForInStep.yield (none, ()))) w false n 0 j (Nat.zero_le _) (by omega) (fun i _ hi => by
        have h1 : xs[i]? = some xs[i] := List.getElem?_eq_getElem (by omega)
        have h2 : ys[i]? = some xs[i] := by
          have := hmin i hi
          have h3 : xs[i]? = ys[i]? := Classical.byContradiction fun q => this ⟨by omega, q⟩
          rw [← h3, h1]
        simp only [Sem.run_bind, hpart xs i _ h1, hpart ys i _ h2, Result.andThen_ok, heq]
        simp) (by
        have h1 : xs[j]? = some xs[j] := List.getElem?_eq_getElem (by omega)
        have h2 : ys[j]? = some ys[j] := List.getElem?_eq_getElem (by omega)
        have h3 : xs[j] ≠ ys[j] := fun q => hne (by rw [h1, h2, q])
        simp only [Sem.run_bind, hpart xs j _ h1, hpart ys j _ h2, Result.andThen_ok, heq]
        simp [h3])
      simp only [Std.Legacy.Range.forIn_eq_forIn_range', Std.Legacy.Range.size, Nat.sub_zero, Nat.add_sub_cancel, Nat.div_one]
      simp at hb ⊢
      rw [hb]
      rfl
theorem run_guardArr {bop : BinOp} {c d : Array Value} (hg : P.eqGuardType P.depth t = false) : (eqGuard bop t x y (.agg c) (.agg d)).run P w = .ok () w := by
  have e : (do if !(← program).eqGuardType (← program).depth t then return
               if ← Op.eqGuardIn Op.maxDepth t (.agg c) (.agg d) then unsupported (.noEntry "binop/eql: two nil values of an interface type with methods, in a part of a struct or an array") : Sem Unit).run P w = .ok () w := by
    simp [run_program, hg]
  cases bop <;> first | rfl | exact e
theorem x_eqlArr {k : IntKind} {xs ys : List Int} (hu : P.underlying t = some (.array n e)) (hz : ((P.info? e).map fun i => i.size) = some 1) (he : P.underlying e = some (.int k)) (hg : P.eqGuardType P.depth t = false) (hl : xs.length = n) (hl' : ys.length = n)
    (hx : ev ρ x = .agg (xs.map (Value.int k)).toArray) (hy : ev ρ y = .agg (ys.map (Value.int k)).toArray) : Ev1 P (.binOp .eql t x y yt) ty ρ w (.bool (decide (xs = ys))) w := fun _ _ _ _ => by
  have he := run_equalArr (P := P) (w := w) hu hz he hl hl'
  have hb : (binOp .eql t (.agg (xs.map (Value.int k)).toArray) (.agg (ys.map (Value.int k)).toArray)).run P w = .ok (.bool (decide (xs = ys))) w := by
    show (do pure (Value.bool (← Op.equal t (.agg (xs.map (Value.int k)).toArray) (.agg (ys.map (Value.int k)).toArray))) : Sem Value).run P w = _
    simp only [Sem.run_bind, he, Result.andThen_ok]
    rfl
  simp only [execOp, hx, hy, Sem.run_bind, run_guardArr hg, hb, Result.andThen_ok, Sem.run_pure]
theorem x_neqArr {k : IntKind} {xs ys : List Int} (hu : P.underlying t = some (.array n e)) (hz : ((P.info? e).map fun i => i.size) = some 1) (he : P.underlying e = some (.int k)) (hg : P.eqGuardType P.depth t = false) (hl : xs.length = n) (hl' : ys.length = n)
    (hx : ev ρ x = .agg (xs.map (Value.int k)).toArray) (hy : ev ρ y = .agg (ys.map (Value.int k)).toArray) : Ev1 P (.binOp .neq t x y yt) ty ρ w (.bool (!decide (xs = ys))) w := fun _ _ _ _ => by
  have he := run_equalArr (P := P) (w := w) hu hz he hl hl'
  have hb : (binOp .neq t (.agg (xs.map (Value.int k)).toArray) (.agg (ys.map (Value.int k)).toArray)).run P w = .ok (.bool (!decide (xs = ys))) w := by
    show (do pure (Value.bool (!(← Op.equal t (.agg (xs.map (Value.int k)).toArray) (.agg (ys.map (Value.int k)).toArray)))) : Sem Value).run P w = _
    simp only [Sem.run_bind, he, Result.andThen_ok]
    rfl
  simp only [execOp, hx, hy, Sem.run_bind, run_guardArr hg, hb, Result.andThen_ok, Sem.run_pure]
/-- An array type's zero value. -/
theorem s_allocArr {d m : Nat} {z : Value} (hw : wantedR ops ρ ⟨some d, .alloc t, ty, pos, af, g⟩ = true) (hz : ((P.info? t).map fun i => i.zero) = some (some (.agg (Array.replicate m z)))) (H : Sat w0 w L)
    (h : ∀ b w', Sat w0 w' (L ++ [blk b (.cells (List.replicate m z).toArray t (0, 0))]) → Seq1 P ops l (upd ρ d (.pointer (some ⟨b, 0, none⟩))) w' K) : Seq1 P ops (⟨some d, .alloc t, ty, pos, af, g⟩ :: l) ρ w K :=
  s_alloc hw (z := .agg (Array.replicate m z)) hz H fun b w' H' => h b w' (by
    have e : (Value.agg (Array.replicate m z)).cells = (List.replicate m z).toArray := by
      show Array.replicate m z = _
      simp
    rw [e] at H'; exact H')

theorem x_indexStr {s : ByteArray} {k : IntKind} {j : Int} {b : UInt8} (hu : P.underlying t = some .string) (hx : ev ρ x = .string s) (hi : ev ρ y = .int k j) (h0 : 0 ≤ j) (hb : s.data[j.toNat]? = some b) : Ev1 P (.index t x y) ty ρ w (.int .u8 b.toNat) w := fun _ _ _ _ => by
  have h : s[j.toNat]? = some b := by
    have hlt : j.toNat < s.size := (Array.getElem?_eq_some_iff.1 hb).1
    rw [getElem?_pos s _ hlt]
    congr 1
    exact (Array.getElem?_eq_some_iff.1 hb).2
  simp [execOp, hx, hi, Instr.index, asIntOf, run_und hu, h0, h]
/-! ### copy from a text -/
def strB (s : ByteArray) : List Value := s.data.toList.map fun b => .int .u8 b.toNat
theorem copyStr_sat {i k : Nat} {s : ByteArray} {t2 : Nat} {ats : Array TypeId} (ht : SlT P t e 1 bytes) (H : Sat w0 w L) (hi : L[i]? = some (slo e 1 a n cap cs))
    (hs : SubOf a' n' a k) (hk : k + n' ≤ cs.length) (hats : ats = #[t, t2]) :
    ∃ w', (Builtin.copy_ ats ty #[.slice a' n' cap', .string s]).run P w = .ok (.int .i64 (min s.size n' : Nat)) w' ∧ Sat w0 w' (L.set i (slo e 1 a n cap (pasted cs k ((strB s).take (min s.size n'))))) := by
  subst hats
  obtain ⟨q, hq, hsz, hb⟩ := ht.info
  have hrd := H.rd hi
  have hmin : Nat.min s.size n' = min s.size n' := rfl
  have hfc : ((s.extract 0 (min s.size n')).data.map fun b => Value.int .u8 b.toNat) = ((strB s).take (min s.size n')).toArray := by
    apply Array.ext'
    unfold strB
    rw [ByteArray.data_extract, Array.toList_map, Array.toList_extract, List.extract_eq_take_drop, List.drop_zero, Nat.sub_zero, ← List.map_take]
  have h1 : ∀ u ∈ (strB s).take (min s.size n'), u.oneCell' = true := fun u hu => by
    obtain ⟨b, _, rfl⟩ := List.mem_map.1 (List.mem_of_mem_take hu); rfl
  have hsl : (strB s).length = s.size := by unfold strB; rw [List.length_map]; simp
  rcases Nat.eq_zero_or_pos (min s.size n') with h0 | h0
  · refine ⟨w, ?_, ?_⟩
    · rw [h0] at hfc
      rw [List.take_zero] at hfc
      cases a' with
      | none => simp [Builtin.copy_, run_und ht.und, Builtin.lenOf, run_sizeOf hq, hsz, hmin, h0, goInt, Builtin.firstCells]
      | some p => simp [Builtin.copy_, run_und ht.und, Builtin.lenOf, run_sizeOf hq, hsz, hmin, h0, goInt, Builtin.firstCells, hfc, storeCells]
    · have : L.set i (slo e 1 a n cap (pasted cs k ((strB s).take (min s.size n')))) = L := by
        obtain ⟨hlt, he⟩ := List.getElem?_eq_some_iff.1 hi
        rw [h0]
        simp only [pasted, List.take_zero, List.append_nil, List.length_nil, Nat.add_zero, List.take_append_drop]
        rw [← he]; simp
      rw [this]; exact H
  · have hn' : 0 < n' := by omega
    obtain ⟨b, off, ha, ha'⟩ := hs hn'
    have hn : 0 < n := by
      rcases Nat.eq_zero_or_pos n with q | q
      · rw [hrd.1, q, Nat.zero_mul] at hk; omega
      · exact q
    obtain ⟨b2, xs, ha2, H1, hxs, htk, hc⟩ := H.ofSlo hi hn
    rw [ha] at ha2
    injection ha2 with e1
    injection e1 with e1 e2
    subst e1 e2
    have hbw := H1.heap (get_set hi _)
    have hdl : ((strB s).take (min s.size n')).length = min s.size n' := by rw [List.length_take, hsl]; omega
    have hfit : k + 0 + ((strB s).take (min s.size n')).length ≤ xs.size := by
      rw [hdl, hxs]; rw [hrd.1] at hk; omega
    have hst := run_storeCells_at P b k e ((strB s).take (min s.size n')) 0 xs w hbw hfit h1
    refine ⟨w.setRow b (xs.toList.take (k + 0) ++ ((strB s).take (min s.size n')) ++ xs.toList.drop (k + 0 + ((strB s).take (min s.size n')).length)).toArray, ?_, ?_⟩
    · subst ha'
      have hfc2 : (Builtin.firstCells 1 (min s.size n') (.string s)).run P w = .ok ((strB s).take (min s.size n')).toArray w := by
        show (pure ((s.extract 0 (min s.size n')).data.map fun b => Value.int .u8 b.toNat) : Sem (Array Value)).run P w = _
        rw [hfc]; rfl
      simp only [Nat.add_zero] at hst ⊢
      rw [Nat.zero_add]
      generalize (strB s).take (min s.size n') = dd at hfc2 hst ⊢
      simp only [Builtin.copy_, run_und ht.und, Builtin.lenOf, run_sizeOf hq, hsz, hmin, hfc2, goInt, Sem.run_bind, Sem.run_pure, Result.andThen_ok, List.getElem?_toArray, List.getElem?_cons_zero, List.getElem?_cons_succ, hst]
    · have hbut : But w (w.setRow b (xs.toList.take (k + 0) ++ ((strB s).take (min s.size n')) ++ xs.toList.drop (k + 0 + ((strB s).take (min s.size n')).length)).toArray) b := by
        refine ⟨by simp [World.setRow], fun j hj => ?_, rfl, rfl, rfl⟩
        simp [World.setRow, Array.getElem?_modify, Ne.symm hj]
      have hnew := setRow_heap w b xs (xs.toList.take (k + 0) ++ ((strB s).take (min s.size n')) ++ xs.toList.drop (k + 0 + ((strB s).take (min s.size n')).length)).toArray e (0, 0) hbw
      have H2 := H1.set (get_set hi _) hbut hnew
      rw [set_set] at H2
      rw [hrd.1] at hk
      have hxl : xs.toList.length = cap := by simpa using hxs
      have H3 := H2.toSlo (i := i) (n := n) (cap := cap) (sz := 1) (cs := pasted cs k ((strB s).take (min s.size n'))) (get_set hi _) hc (by
          simp only [List.size_toArray, List.length_append, List.length_take, List.length_drop, Nat.add_zero, hxl]
          rw [← List.length_take, hdl]
          omega) (by
          unfold pasted
          simp only [Nat.add_zero]
          rw [← htk]
          rw [List.take_append, List.take_append]
          have hl1 : (xs.toList.take k).length = k := by rw [List.length_take, hxl]; omega
          have hl2 : (xs.toList.take k ++ (strB s).take (min s.size n')).length = k + min s.size n' := by rw [List.length_append, hl1, hdl]
          rw [hl2, hl1, hdl, List.take_take, List.take_take, List.take_take, List.drop_take]
          congr 1
          · congr 1
            · congr 1; omega
            · congr 1; omega)
      rw [set_set] at H3
      rw [ha]
      exact H3
theorem s_copyStr {i k d : Nat} {s : ByteArray} {t2 : Nat} (hw : wantedR ops ρ ⟨some d, .call ⟨.builtin .copy, #[x, y], #[t, t2]⟩, ty, pos, af, g⟩ = true) (ht : SlT P t e 1 bytes)
    (hx : ev ρ x = .slice a' n' cap') (hy : ev ρ y = .string s) (H : Sat w0 w L) (hi : L[i]? = some (slo e 1 a n cap cs)) (hs : SubOf a' n' a k) (hk : k + n' ≤ cs.length)
    (h : ∀ w', Sat w0 w' (L.set i (slo e 1 a n cap (pasted cs k ((strB s).take (min s.size n'))))) → Seq1 P ops l (upd ρ d (.int .i64 (min s.size n' : Nat))) w' K) :
    Seq1 P ops (⟨some d, .call ⟨.builtin .copy, #[x, y], #[t, t2]⟩, ty, pos, af, g⟩ :: l) ρ w K := by
  obtain ⟨w', hrun, H'⟩ := copyStr_sat (ty := ty) (cap' := cap') (t2 := t2) (s := s) ht H hi hs hk rfl
  refine s_val hw (fun _ _ _ _ => ?_) (h w' H')
  simp [execOp, resolve, hx, hy, invoke, builtin, hrun]
end
theorem cutAt_zero (a : Option Addr) (cap sz : Nat) : cutAt a cap 0 sz = a := by
  unfold cutAt
  split
  · rfl
  · rw [Nat.zero_mul]
    cases a with
    | none => rfl
    | some p => rfl
theorem x_sliceTo {P : Program} {ρ : Fr} {w : World} {ty t e sz bytes : Nat} {x hi : Operand} {k2 : IntKind} {a : Option Addr} {m n cap : Nat} (ht : SlT P t e sz bytes) (hx : ev ρ x = .slice a n cap) (hhi : ev ρ hi = .int k2 m) (h2 : m ≤ n) (hc : n ≤ cap) :
    Ev1 P (.slice t x none (some hi) none) ty ρ w (.slice a m cap) w := by
  have h := x_sliceHi (ty := ty) (w := w) ht hx hhi (by omega) (by omega) hc
  rw [cutAt_zero, Int.toNat_natCast] at h
  exact h
section
variable {P : Program} {ρ : Fr} {w : World} {ops : Array Oper} {K : Fr → World → Prop} {Inv : World → Prop} {i j k : Nat} {r s t : Ord} {o q u : Oper}
theorem r_three (ho : ops[i]? = some o) (hq : ops[j]? = some q) (hu : ops[k]? = some u) (h : Seq1 P ops [o] ρ w fun ρ w => Inv w ∧ r.run P Inv ops ρ w K) (h2 : Seq1 P ops [q] ρ w fun ρ w => Inv w ∧ s.run P Inv ops ρ w K)
    (h3 : Seq1 P ops [u] ρ w fun ρ w => Inv w ∧ t.run P Inv ops ρ w K) : (Ord.fork [(i, r), (j, s), (k, t)]).run P Inv ops ρ w K := by
  unfold Ord.run Ord.runs Ord.runs Ord.runs
  exact ⟨⟨o, ho, h⟩, ⟨q, hq, h2⟩, ⟨u, hu, h3⟩, trivial⟩
end
section
variable {P : Program} {n : Nat} {ρ : Fr} {w : World} {Q : Exit → Fr → World → Prop} {c : Code}
theorem WP_meetE {α : Type} (live : α → List (Nat × Value)) (I : α → World → Prop) (h : WP P n c ρ w (thenQ (MeetI live I) Q)) (k : ∀ x ρ w, I x w → Q .normal (upds (live x) ρ) w) : WP P n c ρ w Q := by
  refine WP.mono h fun e ρ w q => ?_
  cases e with
  | normal =>
    obtain ⟨x, h1, h2⟩ := (q : MeetI live I ρ w)
    have := k x ρ w h2
    rwa [h1.upds] at this
  | _ => exact q
end
/-! ### New blocks and whole structs -/
section
variable {P : Program} {ρ : Fr} {w w' w0 : World} {ops : Array Oper} {ty t : TypeId} {pos : String} {af : Array Edge} {g : Option (Nat × Bool)} {l : List Oper} {K : Fr → World → Prop} {v : Value} {L : List HP} {x y : Operand}
theorem Sat.drew (h : Sat w0 w L) : Sat w0 { w with drawn := w.drawn + 1 } L := h.heapEq rfl
theorem Sat.cellsAt {i b : Nat} {cs : List Value} {T : TypeId} {fr : Nat × Nat} (H : Sat w0 w L) (hi : L[i]? = some (blk b (.cells cs.toArray T fr))) {j : Nat} {u : Value} (hj : cs[j]? = some u) : w.cell? ⟨b, j, none⟩ = some u := H.cell hi (by simpa using hj)
theorem s_box1 {d : Nat} (hw : wantedR ops ρ ⟨some d, .box t x, ty, pos, af, g⟩ = true) (hx : ev ρ x = v) (hv : v.cells = #[v]) (H : Sat w0 w L)
    (h : ∀ b w', Sat w0 w' (L ++ [blk b (.cells #[v] t (0, 0))]) → Seq1 P ops l (upd ρ d (.pointer (some ⟨b, 0, none⟩))) w' K) : Seq1 P ops (⟨some d, .box t x, ty, pos, af, g⟩ :: l) ρ w K :=
  s_box hw hx H fun b w' H' => h b w' (by rw [hv] at H'; exact H')
theorem s_boxA {d : Nat} {cs : List Value} (hw : wantedR ops ρ ⟨some d, .box t x, ty, pos, af, g⟩ = true) (hx : ev ρ x = .agg cs.toArray) (H : Sat w0 w L)
    (h : ∀ b w', Sat w0 w' (L ++ [blk b (.cells cs.toArray t (0, 0))]) → Seq1 P ops l (upd ρ d (.pointer (some ⟨b, 0, none⟩))) w' K) : Seq1 P ops (⟨some d, .box t x, ty, pos, af, g⟩ :: l) ρ w K :=
  s_box hw hx H fun b w' H' => h b w' H'
theorem s_allocA {d : Nat} {cs : List Value} (hw : wantedR ops ρ ⟨some d, .alloc t, ty, pos, af, g⟩ = true) (hz : ZeroT P t (.agg cs.toArray)) (H : Sat w0 w L)
    (h : ∀ b w', Sat w0 w' (L ++ [blk b (.cells cs.toArray t (0, 0))]) → Seq1 P ops l (upd ρ d (.pointer (some ⟨b, 0, none⟩))) w' K) : Seq1 P ops (⟨some d, .alloc t, ty, pos, af, g⟩ :: l) ρ w K :=
  s_alloc hw hz H fun b w' H' => h b w' H'
theorem s_alloc1 {d : Nat} {z : Value} (hw : wantedR ops ρ ⟨some d, .alloc t, ty, pos, af, g⟩ = true) (hz : ZeroT P t z) (hv : z.cells = #[z]) (H : Sat w0 w L)
    (h : ∀ b w', Sat w0 w' (L ++ [blk b (.cells #[z] t (0, 0))]) → Seq1 P ops l (upd ρ d (.pointer (some ⟨b, 0, none⟩))) w' K) : Seq1 P ops (⟨some d, .alloc t, ty, pos, af, g⟩ :: l) ρ w K :=
  s_alloc hw hz H fun b w' H' => h b w' (by rw [hv] at H'; exact H')
theorem x_loadB {n b i : Nat} {cs : List Value} {T : TypeId} {fr : Nat × Nat} (h1 : aggB P t n = true) (ha : ev ρ x = .pointer (some ⟨b, 0, none⟩)) (H : Sat w0 w L) (hi : L[i]? = some (blk b (.cells cs.toArray T fr))) (hn : cs.length = n) : Ev1 P (.load t x) ty ρ w (.agg cs.toArray) w :=
  x_loadA h1 ha hn fun j u hj => by rw [Nat.zero_add]; exact H.cellsAt hi hj
theorem s_storeAll {n : TypeId} {i b : Nat} {cs vs : List Value} {T : TypeId} (hw : wantedR ops ρ ⟨none, .store t x y, ty, pos, af, g⟩ = true) (h1 : aggB P t n = true)
    (ha : ev ρ x = .pointer (some ⟨b, 0, none⟩)) (hx : ev ρ y = .agg vs.toArray) (hn : vs.length = n) (hv : ∀ u ∈ vs, u.oneCell' = true)
    (H : Sat w0 w L) (hi : L[i]? = some (blk b (.cells cs.toArray T (0, 0)))) (ho : cs.length = n)
    (h : ∀ w', Sat w0 w' (L.set i (blk b (.cells vs.toArray T (0, 0)))) → Seq1 P ops l ρ w' K) : Seq1 P ops (⟨none, .store t x y, ty, pos, af, g⟩ :: l) ρ w K :=
  s_storeA hw h1 ha hx hn hv H hi (by omega) fun w' H' => h w' (by
    have e : putRow cs 0 vs = vs.toArray := by
      unfold putRow
      rw [List.take_zero, List.nil_append, List.drop_eq_nil_of_le (by omega), List.append_nil]
    rw [e] at H'; exact H')
end
/-! ### Values written out -/
def Evs (ρ : Fr) : List Operand → List Value → Prop
  | [], [] => True
  | x :: xs, v :: vs => ev ρ x = v ∧ Evs ρ xs vs
  | _, _ => False
theorem Evs.map {ρ : Fr} : ∀ {xs : List Operand} {vs : List Value}, Evs ρ xs vs → xs.map (ev ρ) = vs
  | [], [], _ => rfl
  | x :: xs, v :: vs, h => by rw [List.map_cons, h.1, Evs.map h.2]
  | [], _ :: _, h => h.elim
  | _ :: _, [], h => h.elim
section
variable {P : Program} {ρ : Fr} {w w' w0 : World} {ops : Array Oper} {ty t e : TypeId} {pos : String} {af : Array Edge} {g : Option (Nat × Bool)} {l : List Oper} {K : Fr → World → Prop} {L : List HP} {sz bytes : Nat}
theorem x_makeFuncE {f : Fn} {xs ys : Array Operand} {l1 l2 : List Value} (h1 : Evs ρ xs.toList l1) (h2 : Evs ρ ys.toList l2) : Ev1 P (.makeFunc f xs ys) ty ρ w (.func f l1.toArray l2.toArray) w := x_makeFuncA h1.map h2.map
theorem zip_fst {α β : Type} : ∀ (l : List (α × β)), (l.map (·.1)).zip (l.map (·.2)) = l
  | [] => rfl
  | (a, b) :: l => by simp [zip_fst l]
theorem x_buildE {parts : Array (Nat × Operand)} {vs : List Value} {z cells : List Value} {pl : List (Nat × Nat)} (ht : StT P t z.toArray pl.toArray) (hv : Evs ρ (parts.toList.map (·.2)) vs)
    (hf : fillL pl z ((parts.toList.map (·.1)).zip vs) = some cells) : Ev1 P (.build t parts) ty ρ w (.agg cells.toArray) w := by
  refine x_build ht ?_ hf
  rw [← hv.map]
  generalize parts.toList = q
  induction q with
  | nil => rfl
  | cons a q ih => simp only [List.map_cons, List.zip_cons_cons, ih]
theorem s_buildSliceE {parts : Array (Nat × Operand)} {n d : Nat} {vs : List Value} (hw : wantedR ops ρ ⟨some d, .buildSlice t n parts, ty, pos, af, g⟩ = true) (ht : SlT P t e sz bytes) (hz : ∃ z, ZeroT P e z ∧ z.cells.size = sz)
    (hi : parts.toList.map (·.1) = List.range vs.length) (hv : Evs ρ (parts.toList.map (·.2)) vs) (hn : vs.length = n) (hs : ∀ u ∈ vs, u.cells.size = sz) (hbig : n * sz ≤ 16777216) (H : Sat w0 w L)
    (h : ∀ b w', Sat w0 w' (L ++ [slo e sz (some ⟨b, 0, none⟩) n n (vs.flatMap fun u => u.cells.toList)]) → Seq1 P ops l (upd ρ d (.slice (some ⟨b, 0, none⟩) n n)) w' K) :
    Seq1 P ops (⟨some d, .buildSlice t n parts, ty, pos, af, g⟩ :: l) ρ w K := by
  refine s_buildSlice hw ht hz ?_ hn hs hbig H h
  have h2 := hv.map
  have e1 : parts.toList.map (fun x => (x.1, ev ρ x.2)) = (parts.toList.map (·.1)).zip (parts.toList.map fun x => ev ρ x.2) := by
    generalize parts.toList = q
    induction q with
    | nil => rfl
    | cons a q ih => simp only [List.map_cons, List.zip_cons_cons, ih]
  rw [List.map_map] at h2
  have h3 : (parts.toList.map fun x => ev ρ x.2) = vs := h2
  rw [e1, h3, hi]
  apply List.ext_getElem?
  intro i
  by_cases hi : i < vs.length
  · simp [List.getElem?_zip_eq_some, hi, List.getElem?_eq_getElem]
  · simp [hi]
end
/-! ### Results that lie in cells -/
section
variable {P : Program} {fn : Func} {φ : Value → World → Prop} {ρ : Fr} {w : World} {t u T : Nat} {x : Value} {b n : Nat} {cs : List Value}
theorem run_loadVarA (h1 : aggB P T n = true) (hn : cs.length = n) (hc : ∀ j u, cs[j]? = some u → w.cell? ⟨b, j, none⟩ = some u) : (loadVar T ⟨b, 0, none⟩).run P w = .ok (.agg cs.toArray) w := by
  have hl := run_loadCells_list (P := P) w ⟨b, 0, none⟩ cs (fun j u hj => by
    rw [add_at, Nat.zero_add]; exact hc j u hj)
  rw [hn] at hl
  simp [loadVar, (aggB_spec (w := w) h1).1, (aggB_spec (w := w) h1).2, hl]
theorem retQ_c1 (hr : fn.results = #[.cell t T]) (hv : ρ t = .pointer (some ⟨b, 0, none⟩)) (h1 : aggB P T n = true) (hn : cs.length = n) (hc : ∀ j u, cs[j]? = some u → w.cell? ⟨b, j, none⟩ = some u) (h : φ (.agg cs.toArray) w) : retQ P fn φ .ret ρ w := fun a ha => ⟨.agg cs.toArray, by
  have e : (results fn a.tmps).run P w = (do let v ← loadVar T (← asAddr (a.tmps.getD t undef)); pure v : Sem Value).run P w := by
    simp [results, hr]
  rw [e, ha.vals, hv]
  have h2 := run_loadVarA (P := P) h1 hn hc
  simp [asAddr, h2], h⟩
theorem retQ_c1t1 (hr : fn.results = #[.cell t T, .tmp u]) (hv : ρ t = .pointer (some ⟨b, 0, none⟩)) (hx : ρ u = x) (h1 : aggB P T n = true) (hn : cs.length = n) (hc : ∀ j u, cs[j]? = some u → w.cell? ⟨b, j, none⟩ = some u) (h : φ (.tuple #[.agg cs.toArray, x]) w) : retQ P fn φ .ret ρ w := fun a ha => ⟨.tuple #[.agg cs.toArray, x], by
  have h2 := run_loadVarA (P := P) h1 hn hc
  have h3 := ha.vals t
  have h4 := ha.vals u
  rw [hv] at h3
  rw [hx] at h4
  rw [Array.getD_eq_getD_getElem?] at h3 h4
  simp [results, hr, h3, h4, asAddr, h2], h⟩
end
end Go.Sl
