/- Slices of written-out elements; a slice made with its elements. Holds for every program. -/
import Derived.Test.YthalgkfafoehkaaSl6
namespace Go.Sl
section
variable {P : Program} {ρ : Fr} {w w' w0 : World} {ops : Array Oper} {op : Op} {ty : TypeId} {pos : String} {af : Array Edge} {g : Option (Nat × Bool)} {l : List Oper} {K : Fr → World → Prop} {v : Value} {L : List HP}
variable {e t sz bytes : Nat}

theorem take_set_succ {α : Type _} : ∀ (l : List α) (i : Nat) (x : α), i < l.length → (l.set i x).take (i + 1) = l.take i ++ [x]
  | [], i, x, h => by simp at h
  | y :: l, 0, x, _ => by simp
  | y :: l, i + 1, x, h => by simpa using take_set_succ l i x (by simpa using h)
theorem drop_set_succ {α : Type _} : ∀ (l : List α) (i m : Nat) (x : α), i < m → (l.set i x).drop m = l.drop m
  | [], i, m, x, _ => by simp
  | y :: l, 0, m + 1, x, _ => by simp
  | y :: l, i + 1, m + 1, x, h => by simpa using drop_set_succ l i m x (by omega)
theorem fold_cells : ∀ (xs : List Value) (j o : Nat) (acc : List Value), o + j + xs.length ≤ acc.length →
    ((xs.zipIdx j).foldl (fun (cs : Array Value) (p : Value × Nat) => cs.setIfInBounds (o + p.2) p.1) acc.toArray) = (pasted acc (o + j) xs).toArray := by
  intro xs
  induction xs with
  | nil => intro j o acc _; simp [pasted]
  | cons x xs ihx =>
    intro j o acc hle
    rw [List.length_cons] at hle
    have hlt : o + j < acc.length := by omega
    rw [List.zipIdx_cons, List.foldl_cons]
    rw [show acc.toArray.setIfInBounds (o + j) x = (acc.set (o + j) x).toArray by simp]
    rw [ihx (j + 1) o (acc.set (o + j) x) (by rw [List.length_set]; omega)]
    unfold pasted
    rw [← Nat.add_assoc o j 1, take_set_succ _ _ _ hlt, drop_set_succ _ _ _ _ (by omega), List.length_cons, show o + j + (xs.length + 1) = o + j + 1 + xs.length by omega]
    simp
theorem pasted_length {cur : List Value} {k : Nat} {ds : List Value} (h : k + ds.length ≤ cur.length) : (pasted cur k ds).length = cur.length := by
  unfold pasted
  rw [List.length_append, List.length_append, List.length_take, List.length_drop]
  omega
theorem pasted_pasted (cur : List Value) (k : Nat) (xs ys : List Value) (h : k + xs.length + ys.length ≤ cur.length) : pasted (pasted cur k xs) (k + xs.length) ys = pasted cur k (xs ++ ys) := by
  unfold pasted
  have h1 : (cur.take k ++ xs).length = k + xs.length := by rw [List.length_append, List.length_take]; omega
  rw [← h1, List.take_left, List.drop_append]
  rw [List.drop_eq_nil_of_le (by omega : (cur.take k ++ xs).length ≤ (cur.take k ++ xs).length + ys.length), List.nil_append, List.drop_drop]
  rw [h1, List.length_append]
  simp only [List.append_assoc]
  congr 4
  omega
theorem fill_flat : ∀ (vs : List Value) (k : Nat) (cur : List Value), (∀ u ∈ vs, u.cells.size = sz) → (k + vs.length) * sz ≤ cur.length →
    Instr.fill (fun i => some (i * sz, sz)) cur.toArray ((vs.zipIdx k).map fun p => (p.2, p.1)) = some (pasted cur (k * sz) (vs.flatMap fun u => u.cells.toList)).toArray := by
  intro vs
  induction vs with
  | nil => intro k cur _ _; simp [Instr.fill, pasted]
  | cons u vs ih =>
    intro k cur hsz hl
    have hu := hsz u (List.mem_cons_self ..)
    rw [List.length_cons] at hl
    have hl' : (k + 1 + vs.length) * sz ≤ cur.length := by rw [Nat.add_assoc, Nat.add_comm 1]; exact hl
    have h1 : (k + 1) * sz ≤ cur.length := Nat.le_trans (Nat.mul_le_mul_right _ (by omega)) hl
    have hroom : k * sz + sz ≤ cur.length := by rwa [Nat.succ_mul] at h1
    have hul : u.cells.toList.length = sz := by simpa using hu
    rw [List.zipIdx_cons, List.map_cons, Instr.fill]
    have hcond : (decide (u.cells.size ≠ sz) || decide (k * sz + u.cells.size > cur.toArray.size)) = false := by
      simp [hu]; omega
    simp only [hcond, Bool.false_eq_true, if_false]
    have h0 := fold_cells u.cells.toList 0 (k * sz) cur (by rw [hul]; omega)
    have h2 : (u.cells.zipIdx.foldl (fun (cs : Array Value) (x : Value × Nat) => match x with | (c, j) => cs.setIfInBounds (k * sz + j) c) cur.toArray) = (pasted cur (k * sz) u.cells.toList).toArray := by
      rw [← Array.foldl_toList, Array.toList_zipIdx]
      exact h0
    rw [h2, ih (k + 1) (pasted cur (k * sz) u.cells.toList) (fun x hx => hsz x (List.mem_cons_of_mem _ hx)) (by
        rw [pasted_length (by rw [hul]; exact hroom)]; exact hl')]
    congr 2
    rw [List.flatMap_cons]
    rw [show (k + 1) * sz = k * sz + u.cells.toList.length by rw [hul, Nat.succ_mul]]
    refine pasted_pasted _ _ _ _ ?_
    have hfl : (vs.flatMap fun u => u.cells.toList).length = vs.length * sz := by
      have : ∀ (l : List Value), (∀ u ∈ l, u.cells.size = sz) → (l.flatMap fun u => u.cells.toList).length = l.length * sz := by
        intro l
        induction l with
        | nil => intro _; simp
        | cons y l ihl =>
          intro hh
          have hy := hh y (List.mem_cons_self ..)
          rw [List.flatMap_cons, List.length_append, ihl (fun x hx => hh x (List.mem_cons_of_mem _ hx)), List.length_cons, Nat.succ_mul]
          have : y.cells.toList.length = sz := by simpa using hy
          omega
      exact this vs fun x hx => hsz x (List.mem_cons_of_mem _ hx)
    rw [hul, hfl]
    rw [Nat.add_mul, Nat.add_mul, Nat.one_mul] at hl
    omega
theorem s_buildSlice {parts : Array (Nat × Operand)} {n d : Nat} {vs : List Value} (hw : wantedR ops ρ ⟨some d, .buildSlice t n parts, ty, pos, af, g⟩ = true) (ht : SlT P t e sz bytes) (hz : ∃ z, ZeroT P e z ∧ z.cells.size = sz)
    (hp : (parts.toList.map fun x => (x.1, ev ρ x.2)) = (vs.zipIdx 0).map fun p => (p.2, p.1)) (hn : vs.length = n) (hs : ∀ u ∈ vs, u.cells.size = sz) (hbig : n * sz ≤ 16777216) (H : Sat w0 w L)
    (h : ∀ b w', Sat w0 w' (L ++ [slo e sz (some ⟨b, 0, none⟩) n n (vs.flatMap fun u => u.cells.toList)]) → Seq1 P ops l (upd ρ d (.slice (some ⟨b, 0, none⟩) n n)) w' K) :
    Seq1 P ops (⟨some d, .buildSlice t n parts, ty, pos, af, g⟩ :: l) ρ w K := by
  obtain ⟨q, hq, hsz, hb⟩ := ht.info
  obtain ⟨z, hz, hzs⟩ := hz
  obtain ⟨q', hq', hz⟩ := hz.info
  rw [hq] at hq'; injection hq' with hq'; subst hq'
  have hfl : (vs.flatMap fun u => u.cells.toList).length = n * sz := by
    subst hn
    have : ∀ (l : List Value), (∀ u ∈ l, u.cells.size = sz) → (l.flatMap fun u => u.cells.toList).length = l.length * sz := by
      intro l
      induction l with
      | nil => intro _; simp
      | cons y l ihl =>
        intro hh
        have hy := hh y (List.mem_cons_self ..)
        rw [List.flatMap_cons, List.length_append, ihl (fun x hx => hh x (List.mem_cons_of_mem _ hx)), List.length_cons, Nat.succ_mul]
        have : y.cells.toList.length = sz := by simpa using hy
        omega
    exact this vs hs
  have hfill : ∀ (cur : Array Value), cur.size = n * sz → Instr.fill (fun i => some (i * sz, sz)) cur (parts.map fun x => (x.1, ev ρ x.2)).toList = some (vs.flatMap fun u => u.cells.toList).toArray := by
    intro cur hc
    rw [Array.toList_map, hp]
    have := fill_flat (sz := sz) vs 0 cur.toList hs (by simp [hn, hc])
    simp only [Array.toArray_toList] at this
    rw [this]
    unfold pasted
    rw [Nat.zero_mul, List.take_zero, List.nil_append, Nat.zero_add, hfl, List.drop_eq_nil_of_le (by simp [hc]), List.append_nil]
  have hbig' : ¬ (n * sz > 2 ^ 24) := by omega
  refine s_val hw (w' := w.alloc (.cells (vs.flatMap fun u => u.cells.toList).toArray e)) (v := .slice (some ⟨w.heap.size, 0, none⟩) n n) (fun _ _ _ _ => ?_) (h w.heap.size _ ?_)
  · simp only [execOp, Instr.buildSlice, Sem.run_bind, run_und ht.und, Result.andThen_ok, run_sizeOf hq, hsz, hbig', if_false]
    split
    · simp only [Sem.run_bind, Sem.run_pure, Result.andThen_ok]
      rw [hfill _ (by simp)]
      simp only [Sem.run_bind, run_newRow, Result.andThen_ok, Sem.run_pure]
    · simp only [Sem.run_bind, zeroValue, run_info hq, Result.andThen_ok, hz, Sem.run_pure]
      rw [hfill _ (by simp)]
      simp only [Sem.run_bind, run_newRow, Result.andThen_ok, Sem.run_pure]
  · have H1 := H.alloc (.cells (vs.flatMap fun u => u.cells.toList).toArray e)
    have hi : (L ++ [blk w.heap.size (.cells (vs.flatMap fun u => u.cells.toList).toArray e (0, 0))])[L.length]? = some (blk w.heap.size (.cells (vs.flatMap fun u => u.cells.toList).toArray e (0, 0))) := by simp
    have H2 := H1.toSlo hi (n := n) (cap := n) (sz := sz) (cs := vs.flatMap fun u => u.cells.toList) (Nat.le_refl _) (by simpa using hfl) (by rw [← hfl]; exact List.take_length)
    simpa using H2
end
end Go.Sl
