/- DiskPlays: the contracts in the form that its head wants. -/
import Derived.Test.YthalgkfafoehkaaRef10
namespace Go.Sl
open Go.Proofs
theorem New_any {w0 w : World} {L : List HP} (H : Sat w0 w L) (s : Int) : Calls Try.prog 7 #[.int .i64 s] w (Ret fun v w' => ∃ p e N, v = .tuple #[p, .int .i64 e] ∧ Sat w0 w' (L ++ N) ∧ (¬ (s < 1 ∨ 4096 < s) → ∃ d, p = dp d ∧ e = 0 ∧ N = [DISK d (D.zero s.toNat) []])) := by
  refine Calls.mono (New_calls s) (Ret.mono ?_)
  rintro v w' ⟨h1, h2⟩
  by_cases h : s < 1 ∨ 4096 < s
  · obtain ⟨rfl, hE⟩ := h1 h
    exact ⟨_, _, [], rfl, H.more (Sat.nil hE), fun hn => absurd h hn⟩
  · obtain ⟨d, rfl, hS⟩ := h2 h
    exact ⟨_, _, _, rfl, H.more hS, fun _ => ⟨d, rfl, rfl, rfl⟩⟩
theorem rNew_any {w0 w : World} {L : List HP} (H : Sat w0 w L) (s : Int) : Calls Try.prog 23 #[.int .i64 s] w (Ret fun v w' => ∃ p e N, v = .tuple #[p, .int .i64 e] ∧ Sat w0 w' (L ++ N) ∧ (¬ (s < 1 ∨ 4096 < s) → ∃ y, p = dp y ∧ e = 0 ∧ N = [REF y (D.zero s.toNat)])) := by
  refine Calls.mono (rNew_calls s) (Ret.mono ?_)
  rintro v w' ⟨h1, h2⟩
  by_cases h : s < 1 ∨ 4096 < s
  · obtain ⟨rfl, hE⟩ := h1 h
    exact ⟨_, _, [], rfl, H.more (Sat.nil hE), fun hn => absurd h hn⟩
  · obtain ⟨y, rfl, hS⟩ := h2 h
    exact ⟨_, _, _, rfl, H.more hS, fun _ => ⟨y, rfl, rfl, rfl⟩⟩
theorem Plays_bad0 {w : World} {s : Int} {ia aa : Option Addr} {ic an ac : Nat} (hbad : s < 1 ∨ 4096 < s) :
    Calls Try.prog 5 #[.int .i64 s, .slice ia 0 ic, .slice aa an ac] w (Ret fun v w' => v = .bool true ∧ Ext w w') := by
  refine calls_of Try.func5 rfl rfl ?_
  refine WP_r rfl ?_
  refine s_val rfl (x_assign (by conv => lhs; whnf)) ?_
  refine s_end ?_
  refine WP_r rfl ?_
  refine s_val rfl (x_move (by conv => lhs; whnf)) ?_
  refine s_call rfl (by kernel_rfl) (New_calls s) rfl rfl ?_
  rintro v w1 ⟨h1, _⟩
  obtain ⟨rfl, hE⟩ := h1 hbad
  refine s_val rfl (x_move (by conv => lhs; whnf)) ?_
  refine s_val rfl (x_extract rfl rfl) ?_
  refine s_val rfl (x_extract rfl rfl) ?_
  refine s_val rfl (x_assign (by conv => lhs; whnf)) ?_
  refine s_val rfl (x_assign (by conv => lhs; whnf)) ?_
  refine s_end ?_
  refine WP_r rfl ?_
  refine s_val rfl (x_move (by conv => lhs; whnf)) ?_
  refine s_call rfl (by kernel_rfl) (rNew_calls s) rfl rfl ?_
  rintro v w2 ⟨h2, _⟩
  obtain ⟨rfl, hE2⟩ := h2 hbad
  replace hE := hE.trans hE2
  refine s_val rfl (x_move (by conv => lhs; whnf)) ?_
  refine s_val rfl (x_extract rfl rfl) ?_
  refine s_val rfl (x_extract rfl rfl) ?_
  refine s_val rfl (x_assign (by conv => lhs; whnf)) ?_
  refine s_val rfl (x_assign (by conv => lhs; whnf)) ?_
  refine s_end ?_
  refine WP_seq ?_
  refine WP_r rfl ?_
  refine s_val rfl (x_move (by conv => lhs; whnf)) ?_
  refine s_val rfl (x_lenS (by kernel_rfl) rfl) ?_
  refine s_val rfl (x_gtr rfl rfl) ?_
  refine s_end ?_
  refine WP_cond_false rfl ?_
  refine WP_skip ?_
  refine thenQ_n ?_
  refine WP_seq ?_
  refine WP_r rfl ?_
  refine s_val rfl (x_move (by conv => lhs; whnf)) ?_
  refine s_val rfl (x_move (by conv => lhs; whnf)) ?_
  refine s_val rfl (x_neq rfl rfl) ?_
  refine s_val rfl (x_move (by conv => lhs; whnf)) ?_
  refine s_val rfl (x_move (by conv => lhs; whnf)) ?_
  refine s_val rfl (x_eqlPtrNil (by kernel_rfl) rfl) ?_
  refine s_val rfl (x_move (by conv => lhs; whnf)) ?_
  refine s_val rfl (x_neq rfl rfl) ?_
  refine s_val rfl (x_neqBool_of (p := true) (q := true) rfl (by kernel_rfl) rfl rfl) ?_
  refine s_val rfl (x_pick_false rfl (by conv => lhs; whnf)) ?_
  refine s_end ?_
  refine WP_cond_false rfl ?_
  refine WP_skip ?_
  refine thenQ_n ?_
  refine WP_seq ?_
  refine WP_r rfl ?_
  refine s_val rfl (x_move (by conv => lhs; whnf)) ?_
  refine s_val rfl (x_eqlPtrNil (by kernel_rfl) rfl) ?_
  refine s_end ?_
  refine WP_cond_true rfl ?_
  refine WP_r rfl ?_
  refine s_val rfl (x_assign (by conv => lhs; whnf)) ?_
  refine s_end ?_
  refine WP_ret ?_
  refine thenQ_r ?_
  refine retQ_1 rfl (by conv => lhs; whnf) ?_
  exact ⟨rfl, hE⟩
theorem Plays_bad1 {w : World} {s : Int} {ia aa : Option Addr} {n ic an ac : Nat} {S : List UInt8} (HR : Rd w ia n ic 1 (bys S)) (hn : 0 < n) (hn2 : n ≤ 140737488355328) (hbad : S.length % 256 ≠ 0 ∨ S.length / 256 < 1 ∨ 4096 < S.length / 256) :
    Calls Try.prog 5 #[.int .i64 s, .slice ia n ic, .slice aa an ac] w (Ret fun v w' => v = .bool true ∧ Ext w w') := by
  refine calls_of Try.func5 rfl rfl ?_
  refine WP_r rfl ?_
  refine s_val rfl (x_assign (by conv => lhs; whnf)) ?_
  refine s_end ?_
  refine WP_r rfl ?_
  refine s_val rfl (x_move (by conv => lhs; whnf)) ?_
  refine s_call rfl (by kernel_rfl) (New_any (Sat.nil (Ext.refl w)) s) rfl rfl ?_
  rintro v w1 ⟨p1, e1, N1, rfl, H1, _⟩
  refine s_val rfl (x_move (by conv => lhs; whnf)) ?_
  refine s_val rfl (x_extract rfl rfl) ?_
  refine s_val rfl (x_extract rfl rfl) ?_
  refine s_val rfl (x_assign (by conv => lhs; whnf)) ?_
  refine s_val rfl (x_assign (by conv => lhs; whnf)) ?_
  refine s_end ?_
  refine WP_r rfl ?_
  refine s_val rfl (x_move (by conv => lhs; whnf)) ?_
  refine s_call rfl (by kernel_rfl) (rNew_any H1 s) rfl rfl ?_
  rintro v w2 ⟨p2, e2, N2, rfl, H2, _⟩
  have hE := H2.ext
  clear H1 H2
  refine s_val rfl (x_move (by conv => lhs; whnf)) ?_
  refine s_val rfl (x_extract rfl rfl) ?_
  refine s_val rfl (x_extract rfl rfl) ?_
  refine s_val rfl (x_assign (by conv => lhs; whnf)) ?_
  refine s_val rfl (x_assign (by conv => lhs; whnf)) ?_
  refine s_end ?_
  refine WP_seq ?_
  refine WP_r rfl ?_
  refine s_val rfl (x_move (by conv => lhs; whnf)) ?_
  refine s_val rfl (x_lenS (by kernel_rfl) rfl) ?_
  refine s_val rfl (x_gtr rfl rfl) ?_
  refine s_end ?_
  refine WP_cond_true (by rw [decide_eq_true (show (0 : Int) < (n : Int) by omega)]; rfl) ?_
  refine WP_r rfl ?_
  refine s_val rfl (x_move (by conv => lhs; whnf)) ?_
  refine s_call rfl (by kernel_rfl) (Bytes_calls (HR.ext hE) hn2) rfl rfl ?_
  rintro v w3 ⟨a3, c3, rfl, H3⟩
  replace hE := hE.trans H3.ext
  refine s_call rfl (by kernel_rfl) (Load_calls (H3.rd (i := 0) rfl) hn2) rfl rfl ?_
  rintro v w4 ⟨h4, _⟩
  obtain ⟨rfl, hE4⟩ := h4 hbad
  replace hE := hE.trans hE4
  refine s_val rfl (x_move (by conv => lhs; whnf)) ?_
  refine s_val rfl (x_extract rfl rfl) ?_
  refine s_val rfl (x_extract rfl rfl) ?_
  refine s_val rfl (x_assign (by conv => lhs; whnf)) ?_
  refine s_val rfl (x_assign (by conv => lhs; whnf)) ?_
  refine s_end ?_
  refine WP_region rfl ?_
  refine s_val rfl (x_move (by conv => lhs; whnf)) ?_
  refine s_call rfl (by kernel_rfl) (rLoad_calls (HR.ext hE) hn2) rfl rfl ?_
  rintro v w5 ⟨h5, _⟩
  obtain ⟨rfl, hE5⟩ := h5 hbad
  replace hE := hE.trans hE5
  refine s_val rfl (x_move (by conv => lhs; whnf)) ?_
  refine s_val rfl (x_extract rfl rfl) ?_
  refine s_val rfl (x_extract rfl rfl) ?_
  refine s_val rfl (x_assign (by conv => lhs; whnf)) ?_
  refine s_val rfl (x_assign (by conv => lhs; whnf)) ?_
  refine s_end ?_
  refine thenQ_n ?_
  refine WP_seq ?_
  refine WP_r rfl ?_
  refine s_val rfl (x_move (by conv => lhs; whnf)) ?_
  refine s_val rfl (x_move (by conv => lhs; whnf)) ?_
  refine s_val rfl (x_neq rfl rfl) ?_
  refine s_val rfl (x_move (by conv => lhs; whnf)) ?_
  refine s_val rfl (x_move (by conv => lhs; whnf)) ?_
  refine s_val rfl (x_eqlPtrNil (by kernel_rfl) rfl) ?_
  refine s_val rfl (x_move (by conv => lhs; whnf)) ?_
  refine s_val rfl (x_neq rfl rfl) ?_
  refine s_val rfl (x_neqBool_of (p := true) (q := true) rfl (by kernel_rfl) rfl rfl) ?_
  refine s_val rfl (x_pick_false rfl (by conv => lhs; whnf)) ?_
  refine s_end ?_
  refine WP_cond_false rfl ?_
  refine WP_skip ?_
  refine thenQ_n ?_
  refine WP_seq ?_
  refine WP_r rfl ?_
  refine s_val rfl (x_move (by conv => lhs; whnf)) ?_
  refine s_val rfl (x_eqlPtrNil (by kernel_rfl) rfl) ?_
  refine s_end ?_
  refine WP_cond_true rfl ?_
  refine WP_r rfl ?_
  refine s_val rfl (x_assign (by conv => lhs; whnf)) ?_
  refine s_end ?_
  refine WP_ret ?_
  refine thenQ_r ?_
  refine retQ_1 rfl (by conv => lhs; whnf) ?_
  exact ⟨rfl, hE⟩
end Go.Sl
