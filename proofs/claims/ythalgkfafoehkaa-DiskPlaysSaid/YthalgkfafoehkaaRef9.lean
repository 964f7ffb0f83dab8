/- The document's own disk: Load, walked. -/
import Derived.Test.YthalgkfafoehkaaRef8
namespace Go.Sl
open Go.Proofs

def loadD (S : List UInt8) (n k : Nat) : D := ⟨(mixS (chunks n S) n k).map fun b => [b], -1, false, 0⟩
theorem rLoad_calls {w : World} {a : Option Addr} {n cap : Nat} {S : List UInt8} (HR : Rd w a n cap 1 (bys S)) (hb : n ≤ 140737488355328) :
    Calls Try.prog 26 #[.slice a n cap] w (Ret fun v w' => ((S.length % 256 ≠ 0 ∨ S.length / 256 < 1 ∨ 4096 < S.length / 256) → v = .tuple #[.pointer none, .int .i64 2] ∧ Ext w w') ∧
    (¬ (S.length % 256 ≠ 0 ∨ S.length / 256 < 1 ∨ 4096 < S.length / 256) → ∃ y, v = .tuple #[dp y, .int .i64 0] ∧ Sat w w' [REF y (D.ofImage (S.length / 256) S)])) := by
  have hn : n = S.length := by have := HR.1; rw [bys_length] at this; omega
  refine calls_of Try.func26 rfl rfl ?_
  refine WP_r rfl ?_
  refine s_val rfl (x_assign (by conv => lhs; whnf)) ?_
  refine s_val rfl (x_assign (by conv => lhs; whnf)) ?_
  refine s_end ?_
  refine WP_seq ?_
  refine WP_r rfl ?_
  refine s_val rfl (x_move (by conv => lhs; whnf)) ?_
  refine s_val rfl (x_lenS (by kernel_rfl) rfl) ?_
  refine s_val rfl (x_remi rfl rfl (by omega)) ?_
  refine s_val rfl (x_neq rfl rfl) ?_
  refine s_end ?_
  refine WP_cond_dec rfl (fun h1 => ?_) (fun h1 => ?_)
  · skip
    refine WP_r rfl ?_
    refine s_val rfl (x_assign (by conv => lhs; whnf)) ?_
    refine s_val rfl (x_assign (by conv => lhs; whnf)) ?_
    refine s_end ?_
    refine WP_ret ?_
    refine thenQ_r ?_
    refine retQ_2 rfl (by conv => lhs; whnf) (by conv => lhs; whnf) ?_
    refine ⟨fun _ => ⟨rfl, Ext.refl w⟩, fun h => absurd (.inl ?_) h⟩
    omega
  · skip
    refine WP_skip ?_
    refine thenQ_n ?_
    refine WP_r rfl ?_
    refine s_val rfl (x_move (by conv => lhs; whnf)) ?_
    refine s_val rfl (x_lenS (by kernel_rfl) rfl) ?_
    refine s_val rfl (x_quoi rfl rfl (by omega)) ?_
    refine s_call rfl (by kernel_rfl) (rNew_calls ((n : Int) / 256)) rfl rfl ?_
    rintro v w1 ⟨hv1, hv2⟩
    by_cases hbad : ((n : Int) / 256 < 1 ∨ 4096 < (n : Int) / 256)
    · obtain ⟨rfl, hE⟩ := hv1 hbad
      refine s_val rfl (x_move (by conv => lhs; whnf)) ?_
      refine s_val rfl (x_extract rfl rfl) ?_
      refine s_val rfl (x_extract rfl rfl) ?_
      refine s_val rfl (x_assign (by conv => lhs; whnf)) ?_
      refine s_val rfl (x_assign (by conv => lhs; whnf)) ?_
      refine s_end ?_
      refine WP_seq ?_
      refine WP_r rfl ?_
      refine s_val rfl (x_move (by conv => lhs; whnf)) ?_
      refine s_val rfl (x_neq rfl rfl) ?_
      refine s_end ?_
      refine WP_cond_true rfl ?_
      refine WP_r rfl ?_
      refine s_val rfl (x_move (by conv => lhs; whnf)) ?_
      refine s_val rfl (x_assign (by conv => lhs; whnf)) ?_
      refine s_val rfl (x_assign (by conv => lhs; whnf)) ?_
      refine s_end ?_
      refine WP_ret ?_
      refine thenQ_r ?_
      refine retQ_2 rfl (by conv => lhs; whnf) (by conv => lhs; whnf) ?_
      exact ⟨fun _ => ⟨rfl, hE⟩, fun h => absurd (by omega) h⟩
    · obtain ⟨y, rfl, H⟩ := hv2 hbad
      refine s_val rfl (x_move (by conv => lhs; whnf)) ?_
      refine s_val rfl (x_extract rfl rfl) ?_
      refine s_val rfl (x_extract rfl rfl) ?_
      refine s_val rfl (x_assign (by conv => lhs; whnf)) ?_
      refine s_val rfl (x_assign (by conv => lhs; whnf)) ?_
      refine s_end ?_
      refine WP_seq ?_
      refine WP_r rfl ?_
      refine s_val rfl (x_move (by conv => lhs; whnf)) ?_
      refine s_val rfl (x_neq rfl rfl) ?_
      refine s_end ?_
      refine WP_cond_false rfl ?_
      refine WP_skip ?_
      refine thenQ_n ?_
      refine WP_seq ?_
      refine WP_r rfl ?_
      refine s_val rfl (x_assign (by conv => lhs; whnf)) ?_
      refine s_end ?_
      refine WP_block ?_
      obtain ⟨N, hN⟩ : ∃ N, n / 256 = N := ⟨_, rfl⟩
      have hCl := chunks_len N S
      have hCs := chunks_flat N S (by omega)
      have hz0 : D.zero ((n : Int) / 256).toNat = loadD S N 0 := by
        rw [zero_eq]; unfold loadD mixS
        rw [List.take_zero, List.nil_append, Nat.sub_zero, show ((n : Int) / 256).toNat = N by omega]
      rw [hz0] at H
      have hsec : ∀ k, ∀ b ∈ mixS (chunks N S) N k, b.length = 256 := fun k b hb => by
        rcases List.mem_append.1 hb with h | h
        · exact hCs.2 b (List.mem_of_mem_take h)
        · rw [(List.mem_replicate.1 h).2]; exact zsect_len
      refine WP_loopA (α := Nat) (fun k => [(0, .slice a n cap), (4, dp y), (6, .int .i64 k)]) (fun k w' => k ≤ N ∧ Sat w w' [REF y (loadD S N k)]) (fun k => N - k) 0 ⟨rfl, rfl, rfl, trivial⟩ ⟨Nat.zero_le _, H⟩ ?_
      clear H
      intro k ρ w2 ⟨hk, H⟩
      obtain ⟨va, vc, rows, pool, hok, hv, hp, H⟩ := REF.openL (L := []) H
      simp only [rlist, List.cons_append, List.nil_append] at H
      have hml : (loadD S N k).vals.length = N := by show (List.map _ _).length = N; rw [List.length_map, mixS_len hCl hk]
      have c0 := H.cell (i := 0) (off := 0) rfl rfl
      refine WP_seq ?_
      refine WP_r rfl ?_
      refine s_val rfl (x_move (by conv => lhs; whnf)) ?_
      refine s_val rfl (x_move (by conv => lhs; whnf)) ?_
      refine s_val rfl (x_nilCheck rfl) ?_
      refine s_val rfl (x_field (off := 0) (by kernel_rfl) rfl) ?_
      refine s_val rfl (x_load (by kernel_rfl) rfl (by first | exact c0 | exact hI.1)) ?_
      refine s_val rfl (x_lenS (by kernel_rfl) rfl) ?_
      refine s_val rfl (x_lss rfl rfl) ?_
      refine s_end ?_
      refine WP_cond_dec rfl (fun h2 => ?_) (fun h2 => ?_)
      · skip
        refine WP_skip ?_
        refine thenQ_n ?_
        refine WP_seq ?_
        refine WP_block ?_
        have hkl : k < N := by omega
        obtain ⟨r, hr, hvi⟩ := rows_at hv (i := k) (by omega)
        have HV := H.rd (i := 1) rfl
        have hcap := HR.2.1
        refine WP_draw (fun w => w.cell? ⟨y, 0, none⟩ = some (.slice va (loadD S N k).vals.length vc) ∧ ∃ cs, Rd w va (loadD S N k).vals.length vc 1 cs) (.float 0 (.float 1 (.float 2 (.float 3 (.float 4 (.float 5 (.float 6 (.float 7 (.float 8 (.float 9 (.float 10 (.float 11 (.fork [(12, .fork [(13, .float 14 (.fork [(15, .done)]))])]))))))))))))) (by kernel_rfl) (by kernel_rfl) ⟨c0, _, HV⟩ ?_
        replace H := H.heapEq (w' := { w2 with drawn := w2.drawn + 1 }) rfl
        have hs := cutAt_sub (lo := k * 256) (hi := k * 256 + 256) HR (by omega) (by omega)
        have hsub := HR.sub (k := k * 256) (n' := 256) (cap' := cap - k * 256) (by simpa using hs) (by omega) (by omega)
        simp only [bys_drop, Nat.mul_one, bys_take] at hsub
        have ea : (((k : Int) + 1) * 256).toNat - ((k : Int) * 256).toNat = 256 := by omega
        have eb : ((k : Int) * 256).toNat = k * 256 := by omega
        refine r_val rfl rfl (fun w hI => x_move (by conv => lhs; whnf)) ?_
        refine r_val rfl rfl (fun w hI => x_nilCheck rfl) ?_
        refine r_val rfl rfl (fun w hI => x_field (off := 0) (by kernel_rfl) rfl) ?_
        refine r_val rfl rfl (fun w hI => x_load (by kernel_rfl) rfl (by first | exact c0 | exact hI.1)) ?_
        refine r_val rfl rfl (fun w hI => x_move (by conv => lhs; whnf)) ?_
        refine r_val rfl rfl (fun w hI => x_move (by conv => lhs; whnf)) ?_
        refine r_val rfl rfl (fun w hI => x_move (by conv => lhs; whnf)) ?_
        refine r_val rfl rfl (fun w hI => x_muli rfl rfl (by omega)) ?_
        refine r_val rfl rfl (fun w hI => x_move (by conv => lhs; whnf)) ?_
        refine r_val rfl rfl (fun w hI => x_addi rfl rfl (by omega)) ?_
        refine r_val rfl rfl (fun w hI => x_muli rfl rfl (by omega)) ?_
        refine r_val rfl rfl (fun w hI => x_slice (show SlT Try.prog 37 5 1 1 from ⟨by kernel_rfl, by kernel_rfl⟩) rfl rfl rfl (by omega) (by omega) (by omega) hcap) ?_
        refine r_one rfl ?_
        refine s_call rfl (by kernel_rfl) (rsector_calls (n := (((k : Int) + 1) * 256).toNat - ((k : Int) * 256).toNat) (cap := cap - ((k : Int) * 256).toNat) (a := cutAt a cap ((k : Int) * 256).toNat 1) (bs := (S.drop (k * 256)).take 256) (by rw [ea, eb]; exact hsub.ext H.ext) (by omega)) rfl rfl ?_
        rintro v w3 ⟨a7, cap7, rfl, H7⟩
        rw [ea] at H7 ⊢
        replace H := H.more H7
        clear H7
        simp only [List.cons_append, List.nil_append] at H
        refine s_end ?_
        refine ⟨⟨H.cell (i := 0) (off := 0) rfl rfl, _, H.rd (i := 1) rfl⟩, ?_⟩
        refine r_one rfl ?_
        refine s_buildSlice (vs := [.slice a7 256 cap7]) rfl (show SlT Try.prog 72 37 1 24 from ⟨by kernel_rfl, by kernel_rfl⟩) zSl rfl rfl (by simp [Value.cells]) (by decide) H ?_
        clear H
        intro b w4 H
        simp only [List.cons_append, List.nil_append] at H
        refine s_end ?_
        refine ⟨⟨H.cell (i := 0) (off := 0) rfl rfl, _, H.rd (i := 1) rfl⟩, ?_⟩
        refine r_val rfl rfl (fun w hI => x_index (show SlT Try.prog 59 72 1 24 from ⟨by kernel_rfl, by kernel_rfl⟩) rfl rfl (by omega) (by omega) hI.2.choose_spec) ?_
        refine r_one rfl ?_
        refine s_storeO rfl (by kernel_rfl) rfl (by conv => lhs; whnf) rfl H (i := 1) rfl (by rw [List.length_map, ← List.length_map (f := fun r : Rw => r.es.map Fe.bs), hv]; omega) ?_
        clear H
        intro w5 H
        simp only [List.set_cons_zero, List.set_cons_succ] at H
        rw [show ((k : Int).toNat * 1) = k by omega] at H
        have hst : (loadD S N k).vals.set k [(S.drop (k * 256)).take 256] = (loadD S N (k + 1)).vals := by
          show ((mixS _ _ _).map fun b => [b]).set k _ = (mixS _ _ _).map fun b => [b]
          rw [← mixS_set hCl hkl (chunks_get N S k hkl), List.map_set]
        have H2 := REF.putNew (x := loadD S N k) (r := r) (v := (loadD S N (k + 1)).vals) (single_ok (by rw [mixS_len hCl (by omega)]; omega) (by rw [mixS_len hCl (by omega)]; omega) (hsec (k + 1))) hv hp hr hst H
        refine s_end ?_
        refine ⟨⟨H.cell (i := 0) (off := 0) rfl rfl, _, H.rd (i := 1) rfl⟩, ?_⟩
        refine r_done ?_
        refine blockQ_n ?_
        refine thenQ_n ?_
        refine WP_region rfl ?_
        refine s_val rfl (x_move (by conv => lhs; whnf)) ?_
        refine s_val rfl (x_addi rfl rfl (by omega)) ?_
        refine s_val rfl (x_assign (by conv => lhs; whnf)) ?_
        refine s_end ?_
        exact loopQ_A (k + 1) (by omega) ⟨rfl, rfl, rfl, trivial⟩ ⟨by omega, H2⟩
      · skip
        refine WP_exit ?_
        refine thenQ_e ?_
        refine loopQ_e ?_
        refine blockQ_hit ?_
        refine thenQ_n ?_
        refine WP_r rfl ?_
        refine s_val rfl (x_move (by conv => lhs; whnf)) ?_
        refine s_val rfl (x_assign (by conv => lhs; whnf)) ?_
        refine s_val rfl (x_assign (by conv => lhs; whnf)) ?_
        refine s_end ?_
        refine WP_ret ?_
        refine retQ_2 rfl (by conv => lhs; whnf) (by conv => lhs; whnf) ?_
        refine ⟨fun h => absurd h (by omega), fun _ => ⟨y, rfl, ?_⟩⟩
        have hkN : k = N := by omega
        subst hkN
        have e : D.ofImage (S.length / 256) S = loadD S k k := by
          unfold D.ofImage loadD mixS
          rw [show S.length / 256 = k by omega, Nat.sub_self, List.replicate_zero, List.append_nil, List.take_of_length_le (by omega)]
        rw [e]
        exact REF.closeL (L := []) hok hv hp H
end Go.Sl
