/- The document's own disk: Sync. -/
import Derived.Test.YthalgkfafoehkaaRef4
namespace Go.Sl
open Go.Proofs

def lastF (_ : Nat) (l : List Sect) : List Sect := [l.getLastD []]
theorem lastF_one {x : D} (h : x.Ok) : OneOf lastF x.vals := fun _ l hl => .inr ⟨_, getLastD_mem (h.each l (List.mem_of_getElem? hl)).1, rfl⟩
theorem settle_last : ∀ (v : List (List Sect)), (∀ l ∈ v, l ≠ []) → (settleL (fun (_ : Unit) m => (m, ())) v ()).1 = v.map fun l => [l.getLastD []] := by
  intro v
  induction v with
  | nil => intro _; rfl
  | cons l v ih =>
    intro h
    have hl := h l (List.mem_cons_self ..)
    have hi := ih fun u hu => h u (List.mem_cons_of_mem _ hu)
    unfold settleL
    split
    · show _ :: _ = _ :: _
      rw [hi]
      congr 2
      rw [List.getLastD_eq_getLast?, List.getLast?_eq_getElem?, List.getD_eq_getElem?_getD]
    · rename_i h1
      show l :: _ = _ :: _
      rw [hi]
      congr 1
      match l, hl, h1 with
      | [u], _, _ => rfl
      | u :: t :: l, _, h1 => exact absurd (by simp) h1
theorem mapIdx_last (v : List (List Sect)) : v.mapIdx lastF = v.map fun l => [l.getLastD []] := by
  apply List.ext_getElem?
  intro i
  rw [List.getElem?_mapIdx, List.getElem?_map]; rfl
theorem rSync_calls {w0 w : World} {y : Nat} {x : D} {F : HP} (H : Sat w0 w [REF y x, F]) :
    Calls Try.prog 28 #[dp y] w (Ret fun v w' => v = .int .i64 x.sync.1 ∧ Sat w0 w' [REF y x.sync.2, F]) := by
  refine calls_of Try.func28 rfl rfl ?_
  refine WP_r rfl ?_
  refine s_val rfl (x_assign (by conv => lhs; whnf)) ?_
  refine s_end ?_
  refine WP_seq ?_
  refine WP_r rfl ?_
  refine s_val rfl (x_move (by conv => lhs; whnf)) ?_
  refine s_call rfl (by kernel_rfl) (rtake_calls H) rfl rfl ?_
  clear H
  rintro v w1 ⟨rfl, H⟩
  refine s_val rfl (x_not rfl) ?_
  refine s_end ?_
  refine WP_cond rfl (fun h1 => ?_) (fun h1 => ?_)
  · skip
    refine WP_r rfl ?_
    refine s_val rfl (x_assign (by conv => lhs; whnf)) ?_
    refine s_end ?_
    refine WP_ret ?_
    refine thenQ_r ?_
    refine retQ_1 rfl (by conv => lhs; whnf) ?_
    have ht : ¬ x.take.1 = true := by simpa using h1
    unfold D.sync; rw [if_neg ht]; exact ⟨rfl, H⟩
  · skip
    refine WP_skip ?_
    refine thenQ_n ?_
    refine WP_seq ?_
    refine WP_r rfl ?_
    refine s_val rfl (x_assign (by conv => lhs; whnf)) ?_
    refine s_end ?_
    refine WP_block ?_
    have ht : x.take.1 = true := by simpa using h1
    obtain ⟨z, hz⟩ : ∃ z, x.take.2 = z := ⟨_, rfl⟩
    have hzok : z.Ok := by obtain ⟨_, _, _, _, hok, _⟩ := REF.openL H; rw [← hz]; exact hok
    have hzb := hzok.big
    rw [hz] at H
    have hz0 : z = z.mix lastF 0 := by unfold D.mix mixV; simp
    refine WP_loopA (α := Nat) (fun k => [(0, dp y), (3, .int .i64 k)]) (fun k w' => k ≤ z.vals.length ∧ Sat w0 w' [REF y (z.mix lastF k), F]) (fun k => z.vals.length - k) 0 ⟨rfl, rfl, trivial⟩ ⟨Nat.zero_le _, hz0 ▸ H⟩ ?_
    clear H
    intro k ρ w2 ⟨hk, H⟩
    obtain ⟨va, vc, rows, pool, hok, hv, hp, H⟩ := REF.openL H
    simp only [rlist, List.cons_append, List.nil_append] at H
    have hml : (z.mix lastF k).vals.length = z.vals.length := mixV_len _ _ _
    have c0 := H.cell (i := 0) (off := 0) rfl rfl
    refine WP_seq ?_
    refine WP_r rfl ?_
    refine s_val rfl (x_move (by conv => lhs; whnf)) ?_
    refine s_val rfl (x_move (by conv => lhs; whnf)) ?_
    refine s_val rfl (x_nilCheck rfl) ?_
    refine s_val rfl (x_field (off := 0) (by kernel_rfl) rfl) ?_
    refine s_val rfl (x_load (by kernel_rfl) rfl (by first | exact c0 | exact hI.1)) ?_
    refine s_val rfl (x_lenS (by kernel_rfl) rfl) ?_
    refine s_val rfl (x_lss rfl rfl) ?_
    refine s_end ?_
    refine WP_cond_dec rfl (fun h2 => ?_) (fun h2 => ?_)
    · skip
      refine WP_skip ?_
      refine thenQ_n ?_
      refine WP_seq ?_
      refine WP_block ?_
      have hkl : k < z.vals.length := by omega
      obtain ⟨r, hr, hvi⟩ := rows_at hv (i := k) (by omega)
      have hvk : z.vals[k]? = some (r.es.map Fe.bs) := by
        have h5 := mixV_get lastF z.vals k k
        rw [if_neg (by omega)] at h5
        rw [← h5]; exact hvi
      have hne := (hzok.each _ (List.mem_of_getElem? hvk)).1
      have hpos : 0 < r.es.length := by
        cases hes : r.es with
        | nil => rw [hes] at hne; exact absurd rfl hne
        | cons e es => simp
      have hle : r.es.length ≤ 4611686018427387904 := by
        have := (hzok.each _ (List.mem_of_getElem? hvk)).2
        rwa [List.length_map] at this
      obtain ⟨e, he⟩ : ∃ e, r.es[r.es.length - 1]? = some e := ⟨_, List.getElem?_eq_getElem (by omega)⟩
      have hel : ∀ j, j = k → (rows.map Rw.val)[j]? = some r.val := fun j hj => by subst hj; rw [List.getElem?_map, hr]; rfl
      have hel2 : ∀ j, j = r.es.length - 1 → (r.es.map Fe.sl)[j]? = some e.sl := fun j hj => by subst hj; rw [List.getElem?_map, he]; rfl
      have HV := H.rd (i := 1) rfl
      have HRr := H.rdRow (i := 2) rfl (List.mem_of_getElem? hr)
      refine WP_r rfl ?_
      refine s_val rfl (x_move (by conv => lhs; whnf)) ?_
      refine s_val rfl (x_nilCheck rfl) ?_
      refine s_val rfl (x_field (off := 0) (by kernel_rfl) rfl) ?_
      refine s_val rfl (x_load (by kernel_rfl) rfl (by first | exact c0 | exact hI.1)) ?_
      refine s_val rfl (x_move (by conv => lhs; whnf)) ?_
      refine s_val rfl (x_index (show SlT Try.prog 59 72 1 24 from ⟨by kernel_rfl, by kernel_rfl⟩) rfl rfl (by omega) (by omega) HV) ?_
      refine s_val rfl (x_loadR (by kernel_rfl) rfl HV (hel _ (by omega))) ?_
      refine s_val rfl (x_assign (by conv => lhs; whnf)) ?_
      refine s_end ?_
      refine WP_draw (fun w => w.cell? ⟨y, 0, none⟩ = some (.slice va (z.mix lastF k).vals.length vc) ∧ (∃ cs, Rd w va (z.mix lastF k).vals.length vc 1 cs) ∧ Rd w r.a r.es.length r.cap 1 (r.es.map Fe.sl)) (.float 0 (.float 1 (.float 2 (.float 3 (.float 4 (.float 5 (.float 6 (.float 7 (.float 8 (.float 9 (.float 10 (.fork [(11, .float 12 (.fork [(13, .done)]))])))))))))))) (by kernel_rfl) (by kernel_rfl) ⟨c0, ⟨_, HV⟩, HRr⟩ ?_
      replace H := H.heapEq (w' := { w2 with drawn := w2.drawn + 1 }) rfl
      refine r_val rfl rfl (fun w hI => x_move (by conv => lhs; whnf)) ?_
      refine r_val rfl rfl (fun w hI => x_nilCheck rfl) ?_
      refine r_val rfl rfl (fun w hI => x_field (off := 0) (by kernel_rfl) rfl) ?_
      refine r_val rfl rfl (fun w hI => x_load (by kernel_rfl) rfl (by first | exact c0 | exact hI.1)) ?_
      refine r_val rfl rfl (fun w hI => x_move (by conv => lhs; whnf)) ?_
      refine r_val rfl rfl (fun w hI => x_move (by conv => lhs; whnf)) ?_
      refine r_val rfl rfl (fun w hI => x_move (by conv => lhs; whnf)) ?_
      refine r_val rfl rfl (fun w hI => x_lenS (by kernel_rfl) rfl) ?_
      refine r_val rfl rfl (fun w hI => x_subi rfl rfl (by omega)) ?_
      refine r_val rfl rfl (fun w hI => x_index (show SlT Try.prog 72 37 1 24 from ⟨by kernel_rfl, by kernel_rfl⟩) rfl rfl (by omega) (by omega) hI.2.2) ?_
      refine r_val rfl rfl (fun w hI => x_loadR (by kernel_rfl) rfl hI.2.2 (hel2 _ (by omega))) ?_
      refine r_one rfl ?_
      refine s_buildSlice (vs := [e.sl]) rfl (show SlT Try.prog 72 37 1 24 from ⟨by kernel_rfl, by kernel_rfl⟩) zSl rfl rfl (by simp [Value.cells, Fe.sl]) (by decide) H ?_
      clear H
      intro b w3 H
      simp only [List.cons_append, List.nil_append] at H
      refine s_end ?_
      refine ⟨⟨H.cell (i := 0) (off := 0) rfl rfl, ⟨_, H.rd (i := 1) rfl⟩, H.rdRow (i := 2) rfl (List.mem_of_getElem? hr)⟩, ?_⟩
      refine r_val rfl rfl (fun w hI => x_index (show SlT Try.prog 59 72 1 24 from ⟨by kernel_rfl, by kernel_rfl⟩) rfl rfl (by omega) (by omega) hI.2.1.choose_spec) ?_
      refine r_one rfl ?_
      refine s_storeO rfl (by kernel_rfl) rfl (by conv => lhs; whnf) rfl H (i := 1) rfl (by rw [List.length_map, ← List.length_map (f := fun r : Rw => r.es.map Fe.bs), hv]; omega) ?_
      clear H
      intro w4 H
      simp only [List.set_cons_zero, List.set_cons_succ] at H
      refine s_end ?_
      refine ⟨⟨H.cell (i := 0) (off := 0) rfl rfl, ⟨_, H.rd (i := 1) rfl⟩, H.rdRow (i := 2) rfl (List.mem_of_getElem? hr)⟩, ?_⟩
      refine r_done ?_
      refine blockQ_n ?_
      refine thenQ_n ?_
      refine WP_region rfl ?_
      refine s_val rfl (x_move (by conv => lhs; whnf)) ?_
      refine s_val rfl (x_addi rfl rfl (by omega)) ?_
      refine s_val rfl (x_assign (by conv => lhs; whnf)) ?_
      refine s_end ?_
      have hst := mixV_step lastF hvk
      rw [show lastF k (r.es.map Fe.bs) = [e.bs] by unfold lastF; rw [lastD_get he]] at hst
      rw [show ((k : Int).toNat * 1) = k by omega] at H
      have H2 := REF.putRow (x := z.mix lastF k) (e := e) (r := r) (v := mixV lastF z.vals (k + 1)) (mix_ok hzok (lastF_one hzok) (k + 1)) hv hp hr (List.mem_of_getElem? he) hst H
      exact loopQ_A (k + 1) (by omega) ⟨rfl, rfl, trivial⟩ ⟨by omega, H2⟩
    · skip
      refine WP_exit ?_
      refine thenQ_e ?_
      refine loopQ_e ?_
      refine blockQ_hit ?_
      refine thenQ_n ?_
      refine WP_r rfl ?_
      refine s_val rfl (x_assign (by conv => lhs; whnf)) ?_
      refine s_end ?_
      refine WP_ret ?_
      refine retQ_1 rfl (by conv => lhs; whnf) ?_
      have hkl : k = z.vals.length := by omega
      subst hkl
      unfold D.sync
      rw [if_pos ht, hz]
      have e2 : z.settle (fun (_ : Unit) m => (m, ())) () = z.mix lastF z.vals.length := by
        unfold D.settle D.mix
        rw [mixV_all, settle_last _ (fun l hl => (hzok.each l hl).1), mapIdx_last]
      rw [e2]
      exact ⟨rfl, REF.closeL hok hv hp H⟩
end Go.Sl
