/- The disk: Sure, Image. -/
import Derived.Test.YthalgkfafoehkaaDisk7
import Derived.Test.YthalgkfafoehkaaSl13
namespace Go.Sl
open Go.Proofs

theorem sure_len {x : D} (h : x.Ok) : x.sure.length = 256 * x.vals.length := by
  rw [D.sure_eq, flatLen 256, List.length_map]
  intro v hv
  obtain ⟨l, hl, rfl⟩ := List.mem_map.1 hv
  have := h.each l hl
  cases l with
  | nil => exact absurd rfl this.1
  | cons u l => exact h.sect _ hl u (List.mem_cons_self ..)
theorem Sure_calls {w : World} {d : Nat} {x : D} (h : HoldD w d x) : Calls Try.prog 19 #[dp d] w (Ret fun v w' => ∃ a cap, v = .slice a (256 * x.vals.length) cap ∧ Sat w w' [slo 5 1 a (256 * x.vals.length) cap (bys x.sure)]) := by
  refine calls_of Try.func19 rfl rfl ?_
  refine WP_r rfl ?_
  refine s_val rfl (x_assign (by conv => lhs; whnf)) ?_
  refine s_end ?_
  refine WP_seq ?_
  refine WP_r rfl ?_
  refine s_val rfl (x_move (by conv => lhs; whnf)) ?_
  refine s_call rfl (by kernel_rfl) (is_calls h) rfl rfl ?_
  rintro v w1 ⟨rfl, e1⟩
  have h1 := h.heapEq e1
  have hx := (Sat.nil (Ext.refl w)).heapEq e1
  obtain ⟨a, cap, fb, mb, mm, ff, R⟩ := DISK.read h1
  have hb := R.ok.big
  refine s_val rfl (x_not rfl) ?_
  refine s_end ?_
  refine WP_cond_false rfl ?_
  refine WP_skip ?_
  refine thenQ_n ?_
  refine WP_r rfl ?_
  refine s_val rfl (x_move (by conv => lhs; whnf)) ?_
  refine s_val rfl (x_nilCheck rfl) ?_
  refine s_val rfl (x_field (off := 0) (by kernel_rfl) rfl) ?_
  refine s_val rfl (x_load (by kernel_rfl) rfl R.c0) ?_
  refine s_call rfl (by kernel_rfl) (CloneB_calls R.sure (by omega)) rfl rfl ?_
  rintro v w2 ⟨a3, cap3, rfl, H3⟩
  have hx2 := hx.more H3
  refine s_val rfl (x_assign (by conv => lhs; whnf)) ?_
  refine s_end ?_
  refine WP_ret ?_
  refine retQ_1 rfl (by conv => lhs; whnf) ?_
  exact ⟨a3, cap3, rfl, hx2⟩
/-- The image while sectors are still to come. -/
def D.imgOf (x : D) (todo : List (Int × Value)) : List Sect := x.vals.mapIdx fun i l => if (i : Int) ∈ todo.map (·.1) then l.headD [] else l.getLastD []
def D.image (x : D) : List UInt8 := (x.vals.map fun l => l.getLastD []).flatten
theorem img_get (x : D) (todo : List (Int × Value)) (i : Nat) : (x.imgOf todo)[i]? = (x.vals[i]?).map fun l => if (i : Int) ∈ todo.map (·.1) then l.headD [] else l.getLastD [] := by
  unfold D.imgOf
  rw [List.getElem?_mapIdx]
theorem img_start {x : D} (hok : x.Ok) {mm : List (Int × Value)} (hM : Many x mm) : x.imgOf mm = x.vals.map fun l => l.headD [] := by
  apply List.ext_getElem?
  intro i
  rw [img_get, List.getElem?_map]
  cases hl : x.vals[i]? with
  | none => rfl
  | some l =>
    simp only [Option.map_some, Option.some.injEq]
    split
    · rfl
    · rename_i hn
      have h0 := hok.each l (List.mem_of_getElem? hl)
      match l, h0, hl, hn with
      | [u], _, _, _ => rfl
      | u :: v :: l, h0, hl, hn => exact absurd (List.mem_map.2 ⟨((i : Int), _), (hM _ _).2 ⟨i, _, hl, by simp, rfl, rfl⟩, rfl⟩) hn
theorem img_end (x : D) : x.imgOf [] = x.vals.map fun l => l.getLastD [] := by
  apply List.ext_getElem?
  intro i
  rw [img_get, List.getElem?_map]
  cases hl : x.vals[i]? with
  | none => rfl
  | some l => simp
theorem getLastD_mem {l : List Sect} (h : l ≠ []) : l.getLastD [] ∈ l := by
  rw [List.getLastD_eq_getLast?, List.getLast?_eq_some_getLast h]
  exact List.getLast_mem h
theorem headD_mem {l : List Sect} (h : l ≠ []) : l.headD [] ∈ l := by
  cases l with
  | nil => exact absurd rfl h
  | cons u l => exact List.mem_cons_self ..
theorem img_sect {x : D} (hok : x.Ok) (todo : List (Int × Value)) : ∀ b ∈ x.imgOf todo, b.length = 256 := fun b hb => by
  obtain ⟨i, hi⟩ := List.mem_iff_getElem?.1 hb
  rw [img_get] at hi
  cases hl : x.vals[i]? with
  | none => rw [hl] at hi; cases hi
  | some l =>
    rw [hl] at hi
    simp only [Option.map_some, Option.some.injEq] at hi
    have h0 := (hok.each l (List.mem_of_getElem? hl)).1
    subst hi
    split
    · exact hok.sect l (List.mem_of_getElem? hl) _ (headD_mem h0)
    · exact hok.sect l (List.mem_of_getElem? hl) _ (getLastD_mem h0)
theorem img_len (x : D) (todo : List (Int × Value)) : (x.imgOf todo).length = x.vals.length := by simp [D.imgOf]
theorem img_step {x : D} {todo : List (Int × Value)} {i : Nat} {l : List Sect} (hl : x.vals[i]? = some l) :
    x.imgOf (todo.filter fun q => !decide (q.1 = (i : Int))) = (x.imgOf todo).set i (l.getLastD []) := by
  have hlt : i < (x.imgOf todo).length := by rw [img_len]; exact (List.getElem?_eq_some_iff.1 hl).1
  apply List.ext_getElem?
  intro j
  by_cases hij : i = j
  · subst hij
    rw [img_get, List.getElem?_set_self hlt, hl, Option.map_some, if_neg]
    intro hm
    obtain ⟨q, hq, e⟩ := List.mem_map.1 hm
    have := (List.mem_filter.1 hq).2
    simp [e] at this
  · rw [img_get, List.getElem?_set_ne hij, img_get]
    have : ((j : Int) ∈ (todo.filter fun q => !decide (q.1 = (i : Int))).map (·.1)) ↔ (j : Int) ∈ todo.map (·.1) := by
      constructor
      · intro hm
        obtain ⟨q, hq, e⟩ := List.mem_map.1 hm
        exact List.mem_map.2 ⟨q, (List.mem_filter.1 hq).1, e⟩
      · intro hm
        obtain ⟨q, hq, e⟩ := List.mem_map.1 hm
        refine List.mem_map.2 ⟨q, List.mem_filter.2 ⟨hq, ?_⟩, e⟩
        have : ¬ q.1 = (i : Int) := by rw [e]; omega
        simp [this]
    simp only [this]
theorem Image_calls {w : World} {d : Nat} {x : D} (h : HoldD w d x) : Calls Try.prog 18 #[dp d] w (Ret fun v w' => ∃ a cap, v = .slice a (256 * x.vals.length) cap ∧ Sat w w' [slo 5 1 a (256 * x.vals.length) cap (bys x.image)]) := by
  have ⟨a, cap, fb, mb, mm, ff, R⟩ := DISK.read h
  have hok := R.ok
  have hM := R.many
  have hb := hok.big
  obtain ⟨es, clock, hes, hmi⟩ := R.mapM
  have hmlt := (Array.getElem?_eq_some_iff.1 hes).1
  have c2 := R.c2
  clear R
  refine calls_of Try.func18 rfl rfl ?_
  refine WP_r rfl ?_
  refine s_val rfl (x_assign (by conv => lhs; whnf)) ?_
  refine s_end ?_
  refine WP_r rfl ?_
  refine s_val rfl (x_move (by conv => lhs; whnf)) ?_
  refine s_call rfl (by kernel_rfl) (Sure_calls h) rfl rfl ?_
  rintro v w1 ⟨a1, cap1, rfl, H⟩
  refine s_val rfl (x_assign (by conv => lhs; whnf)) ?_
  refine s_end ?_
  refine WP_seq ?_
  refine WP_r rfl ?_
  refine s_val rfl (x_move (by conv => lhs; whnf)) ?_
  refine s_call rfl (by kernel_rfl) (written_calls (h.ext H.ext) (H.ext.cell c2)) rfl rfl ?_
  rintro v w2 ⟨rfl, e2⟩
  replace H := H.heapEq e2
  clear e2
  rw [D.sure_eq, ← img_start hok hM] at H
  refine s_range rfl (show Try.prog.underlying 47 = some (.map 3 3) by kernel_rfl) rfl ((H.ext.2.1 _ hmlt).trans hes) hmi H ?_
  intro r w3 H3 _
  clear H
  refine s_end ?_
  refine WP_block ?_
  refine WP_loopA (α := List (Int × Value)) (fun _ => [(0, dp d), (3, .slice a1 (256 * x.vals.length) cap1), (10, .pointer (some ⟨r, 0, none⟩))]) (fun todo w' => (∀ p ∈ todo, p ∈ mm) ∧ ∃ last, Sat w w' [slo 5 1 a1 (256 * x.vals.length) cap1 (bys (x.imgOf todo).flatten), iterP mb r es clock mm todo last])
    (fun todo => todo.length) mm ⟨rfl, rfl, rfl, trivial⟩ ⟨fun p hp => hp, none, H3⟩ ?_
  clear H3
  intro todo ρ w4 ⟨htm, last, H⟩
  refine WP_r rfl ?_
  refine s_next rfl rfl H (i := 1) rfl ((H.ext.2.1 _ hmlt).trans hes) hmi (fun ht => ?_) (fun p w5 hp H5 _ _ => ?_)
  · skip
    refine s_val rfl (x_extract rfl rfl) ?_
    refine s_end ?_
    refine WP_seq ?_
    refine WP_cond_false rfl ?_
    refine WP_exit ?_
    refine thenQ_e ?_
    refine loopQ_e ?_
    refine blockQ_hit ?_
    refine thenQ_n ?_
    refine WP_r rfl ?_
    refine s_val rfl (x_move (by conv => lhs; whnf)) ?_
    refine s_val rfl (x_assign (by conv => lhs; whnf)) ?_
    refine s_end ?_
    refine WP_ret ?_
    refine retQ_1 rfl (by conv => lhs; whnf) ?_
    subst ht
    rw [img_end] at H
    exact ⟨a1, cap1, rfl, H.drop 1⟩
  · skip
    refine s_val rfl (x_extract rfl rfl) ?_
    refine s_end ?_
    refine WP_seq ?_
    refine WP_cond_true rfl ?_
    refine WP_skip ?_
    refine thenQ_n ?_
    refine WP_block ?_
    refine WP_r rfl ?_
    clear H
    have H := H5
    clear H5
    simp only [List.set_cons_zero, List.set_cons_succ] at H
    obtain ⟨i, l, hli, hll, hk1, hk2⟩ := (hM p.1 p.2).1 (htm p hp)
    obtain ⟨pk, pv⟩ := p
    simp only at hk1 hk2
    subst hk1 hk2
    refine s_val rfl (x_entry (kf := intF) rfl H (i := 1) rfl ((H.ext.2.1 _ hmlt).trans hes) hmi) ?_
    refine s_val rfl (x_extract rfl rfl) ?_
    refine s_val rfl (x_extract rfl rfl) ?_
    refine s_val rfl (x_assign (by conv => lhs; whnf)) ?_
    refine s_val rfl (x_assign (by conv => lhs; whnf)) ?_
    refine s_end ?_
    have hil : i < x.vals.length := (List.getElem?_eq_some_iff.1 hli).1
    have hcap := (H.rd (i := 0) rfl).2.1
    have hlne := (hok.each l (List.mem_of_getElem? hli)).1
    have hlast : l[l.length - 1]? = some (l.getLastD []) := by
      rw [← List.getLast?_eq_getElem?, List.getLastD_eq_getLast?, List.getLast?_eq_some_getLast hlne]; rfl
    have hll' : (l.getLastD []).length = 256 := hok.sect l (List.mem_of_getElem? hli) _ (getLastD_mem hlne)
    refine WP_draw (fun _ => True) (.float 0 (.float 1 (.float 2 (.float 3 (.float 4 (.float 5 (.float 6 (.fork [(7, .fork [(8, .done)])])))))))) (by kernel_rfl) (by kernel_rfl) trivial ?_
    refine r_val rfl rfl (fun w hI => x_move (by conv => lhs; whnf)) ?_
    refine r_val rfl rfl (fun w hI => x_move (by conv => lhs; whnf)) ?_
    refine r_val rfl rfl (fun w hI => x_muli rfl rfl (by omega)) ?_
    refine r_val rfl rfl (fun w hI => x_sliceLo (show SlT Try.prog 37 5 1 1 from ⟨by kernel_rfl, by kernel_rfl⟩) rfl rfl (by omega) (by omega) hcap) ?_
    refine r_val rfl rfl (fun w hI => x_move (by conv => lhs; whnf)) ?_
    refine r_val rfl rfl (fun w hI => x_move (by conv => lhs; whnf)) ?_
    refine r_val rfl rfl (fun w hI => x_move (by conv => lhs; whnf)) ?_
    refine r_one rfl ?_
    refine s_call rfl (by kernel_rfl) (value_calls (h.ext (H.heapEq (w' := { w5 with drawn := w5.drawn + 1 }) rfl).ext) hli hlast) rfl rfl ?_
    rintro v w6 ⟨va, vc, rfl, hrd, e6⟩
    replace H := (H.heapEq (w' := { w5 with drawn := w5.drawn + 1 }) rfl).heapEq e6
    clear e6
    refine s_end ?_
    refine ⟨trivial, ?_⟩
    refine r_one rfl ?_
    refine s_copy rfl (show SlT Try.prog 37 5 1 1 from ⟨by kernel_rfl, by kernel_rfl⟩) rfl rfl H (i := 0) rfl (cutAt_sub (H.rd (i := 0) rfl) (lo := i * 256) (hi := 256 * x.vals.length) (by omega) (Nat.le_refl _)) (by rw [bys_length, flatLen 256 _ (img_sect hok _), img_len]; omega) hrd (bys_oneCell _) ?_
    clear H
    intro w7 H
    simp only [List.set_cons_zero] at H
    refine s_end ?_
    refine ⟨trivial, ?_⟩
    refine r_done ?_
    refine blockQ_n ?_
    refine loopQ_A (todo.filter fun q => !decide (q.1 = (i : Int))) ?_ ⟨rfl, rfl, rfl, trivial⟩ ⟨fun q hq => htm q (List.mem_filter.1 hq).1, some ((i : Int), .int .i64 ((l.length - 1 : Nat) : Int)), ?_⟩
    · have h1 := List.length_filter_le (fun q : Int × Value => !decide (q.1 = (i : Int))) todo
      rcases Nat.lt_or_eq_of_le h1 with h2 | h2
      · exact h2
      · have := (List.length_filter_eq_length_iff.1 h2) _ hp
        simp at this
    · have e2 : (bys (l.getLastD [])).take (min 256 (256 * x.vals.length - ((i : Int) * 256).toNat) * 1) = bys (l.getLastD []) := List.take_of_length_le (by rw [bys_length]; omega)
      rw [img_step hli, ← pasted_chunk 256 _ (img_sect hok _) i _ (by rw [img_len]; omega) hll']
      rw [e2, Nat.mul_one] at H
      exact H
end Go.Sl
