/- No disk: what a nil pointer and a disk that no call made do. -/
import Derived.Test.YthalgkfafoehkaaDisk10
namespace Go.Sl
open Go.Proofs

def NoD (w : World) (p : Value) : Prop := p = .pointer none ∨ ∃ d, p = dp d ∧ w.cell? ⟨d, 0, none⟩ = some (.slice none 0 0)
theorem NoD.heapEq {w w' : World} {p : Value} (h : NoD w p) (e : core w' = core w) : NoD w' p := by
  rcases h with h | ⟨d, h1, h2⟩
  · exact .inl h
  · exact .inr ⟨d, h1, cell_heapEq e h2⟩
theorem NoD.ext {w w' : World} {p : Value} (h : NoD w p) (e : Ext w w') : NoD w' p := by
  rcases h with h | ⟨d, h1, h2⟩
  · exact .inl h
  · exact .inr ⟨d, h1, e.cell h2⟩
theorem is_no {w : World} {p : Value} (h : NoD w p) : Calls Try.prog 36 #[p] w (Ret fun v w' => v = .bool false ∧ core w' = core w) := by
  rcases h with rfl | ⟨d, rfl, h2⟩
  · exact is_nil
  · exact is_zero h2
theorem look_no {w : World} {p : Value} (h : NoD w p) (at_ : Int) : Calls Try.prog 43 #[p, .int .i64 at_] w (Ret fun v w' => v = .int .i64 1 ∧ core w' = core w) := by
  refine calls_of Try.func43 rfl rfl ?_
  refine WP_r rfl ?_
  refine s_val rfl (x_assign (by conv => lhs; whnf)) ?_
  refine s_end ?_
  refine WP_seq ?_
  refine WP_block ?_
  refine WP_r rfl ?_
  refine s_val rfl (x_move (by conv => lhs; whnf)) ?_
  refine s_call rfl (by kernel_rfl) (is_no h) rfl rfl ?_
  rintro v w1 ⟨rfl, e1⟩
  refine s_val rfl (x_not rfl) ?_
  refine s_val rfl (x_assign (by conv => lhs; whnf)) ?_
  refine s_end ?_
  refine WP_cond_true rfl ?_
  refine WP_r rfl ?_
  refine s_val rfl (x_assign (by conv => lhs; whnf)) ?_
  refine s_end ?_
  refine WP_ret ?_
  refine blockQ_r ?_
  refine thenQ_r ?_
  refine retQ_1 rfl (by conv => lhs; whnf) ?_
  exact ⟨rfl, e1⟩
theorem Sectors_no {w : World} {p : Value} (h : NoD w p) : Calls Try.prog 13 #[p] w (Ret fun v w' => v = .int .i64 0 ∧ core w' = core w) := by
  refine calls_of Try.func13 rfl rfl ?_
  refine WP_r rfl ?_
  refine s_val rfl (x_assign (by conv => lhs; whnf)) ?_
  refine s_end ?_
  refine WP_seq ?_
  refine WP_r rfl ?_
  refine s_val rfl (x_move (by conv => lhs; whnf)) ?_
  refine s_call rfl (by kernel_rfl) (is_no h) rfl rfl ?_
  rintro v w1 ⟨rfl, e1⟩
  refine s_val rfl (x_not rfl) ?_
  refine s_end ?_
  refine WP_cond_true rfl ?_
  refine WP_r rfl ?_
  refine s_val rfl (x_assign (by conv => lhs; whnf)) ?_
  refine s_end ?_
  refine WP_ret ?_
  refine thenQ_r ?_
  refine retQ_1 rfl (by conv => lhs; whnf) ?_
  exact ⟨rfl, e1⟩
theorem Ops_no {w : World} {p : Value} (h : NoD w p) : Calls Try.prog 20 #[p] w (Ret fun v w' => v = .int .i64 0 ∧ core w' = core w) := by
  refine calls_of Try.func20 rfl rfl ?_
  refine WP_r rfl ?_
  refine s_val rfl (x_assign (by conv => lhs; whnf)) ?_
  refine s_end ?_
  refine WP_seq ?_
  refine WP_r rfl ?_
  refine s_val rfl (x_move (by conv => lhs; whnf)) ?_
  refine s_call rfl (by kernel_rfl) (is_no h) rfl rfl ?_
  rintro v w1 ⟨rfl, e1⟩
  refine s_val rfl (x_not rfl) ?_
  refine s_end ?_
  refine WP_cond_true rfl ?_
  refine WP_r rfl ?_
  refine s_val rfl (x_assign (by conv => lhs; whnf)) ?_
  refine s_end ?_
  refine WP_ret ?_
  refine thenQ_r ?_
  refine retQ_1 rfl (by conv => lhs; whnf) ?_
  exact ⟨rfl, e1⟩
theorem Pending_no {w : World} {p : Value} (h : NoD w p) : Calls Try.prog 22 #[p] w (Ret fun v w' => v = .int .i64 0 ∧ core w' = core w) := by
  refine calls_of Try.func22 rfl rfl ?_
  refine WP_r rfl ?_
  refine s_val rfl (x_assign (by conv => lhs; whnf)) ?_
  refine s_end ?_
  refine WP_seq ?_
  refine WP_r rfl ?_
  refine s_val rfl (x_move (by conv => lhs; whnf)) ?_
  refine s_call rfl (by kernel_rfl) (is_no h) rfl rfl ?_
  rintro v w1 ⟨rfl, e1⟩
  refine s_val rfl (x_not rfl) ?_
  refine s_end ?_
  refine WP_cond_true rfl ?_
  refine WP_r rfl ?_
  refine s_val rfl (x_assign (by conv => lhs; whnf)) ?_
  refine s_end ?_
  refine WP_ret ?_
  refine thenQ_r ?_
  refine retQ_1 rfl (by conv => lhs; whnf) ?_
  exact ⟨rfl, e1⟩
theorem written_no {w : World} {p : Value} (h : NoD w p) : Calls Try.prog 45 #[p] w (Ret fun v w' => v = .map none ∧ core w' = core w) := by
  refine calls_of Try.func45 rfl rfl ?_
  refine WP_r rfl ?_
  refine s_val rfl (x_assign (by conv => lhs; whnf)) ?_
  refine s_end ?_
  refine WP_seq ?_
  refine WP_r rfl ?_
  refine s_val rfl (x_move (by conv => lhs; whnf)) ?_
  refine s_call rfl (by kernel_rfl) (is_no h) rfl rfl ?_
  rintro v w1 ⟨rfl, e1⟩
  refine s_val rfl (x_not rfl) ?_
  refine s_end ?_
  refine WP_cond_true rfl ?_
  refine WP_r rfl ?_
  refine s_val rfl (x_assign (by conv => lhs; whnf)) ?_
  refine s_end ?_
  refine WP_ret ?_
  refine thenQ_r ?_
  refine retQ_1 rfl (by conv => lhs; whnf) ?_
  exact ⟨rfl, e1⟩
theorem Sure_no {w : World} {p : Value} (h : NoD w p) : Calls Try.prog 19 #[p] w (Ret fun v w' => v = .slice none 0 0 ∧ core w' = core w) := by
  refine calls_of Try.func19 rfl rfl ?_
  refine WP_r rfl ?_
  refine s_val rfl (x_assign (by conv => lhs; whnf)) ?_
  refine s_end ?_
  refine WP_seq ?_
  refine WP_r rfl ?_
  refine s_val rfl (x_move (by conv => lhs; whnf)) ?_
  refine s_call rfl (by kernel_rfl) (is_no h) rfl rfl ?_
  rintro v w1 ⟨rfl, e1⟩
  refine s_val rfl (x_not rfl) ?_
  refine s_end ?_
  refine WP_cond_true rfl ?_
  refine WP_r rfl ?_
  refine s_val rfl (x_assign (by conv => lhs; whnf)) ?_
  refine s_end ?_
  refine WP_ret ?_
  refine thenQ_r ?_
  refine retQ_1 rfl (by conv => lhs; whnf) ?_
  exact ⟨rfl, e1⟩
theorem Limit_no {w : World} {p : Value} (h : NoD w p) (n : Int) : Calls Try.prog 10 #[p, .int .i64 n] w (Ret fun v w' => v = .tuple #[] ∧ core w' = core w) := by
  refine calls_of Try.func10 rfl rfl ?_
  refine WP_r rfl ?_
  refine s_val rfl (x_move (by conv => lhs; whnf)) ?_
  refine s_call rfl (by kernel_rfl) (is_no h) rfl rfl ?_
  rintro v w1 ⟨rfl, e1⟩
  refine s_end ?_
  refine WP_cond_false rfl ?_
  refine WP_skip ?_
  refine retQ_0n rfl ?_
  exact ⟨rfl, e1⟩
theorem Clone_no {w : World} {p : Value} (h : NoD w p) : Calls Try.prog 9 #[p] w (Ret fun v w' => v = .pointer none ∧ core w' = core w) := by
  refine calls_of Try.func9 rfl rfl ?_
  refine WP_r rfl ?_
  refine s_val rfl (x_assign (by conv => lhs; whnf)) ?_
  refine s_end ?_
  refine WP_seq ?_
  refine WP_r rfl ?_
  refine s_val rfl (x_move (by conv => lhs; whnf)) ?_
  refine s_call rfl (by kernel_rfl) (is_no h) rfl rfl ?_
  rintro v w1 ⟨rfl, e1⟩
  refine s_val rfl (x_not rfl) ?_
  refine s_end ?_
  refine WP_cond_true rfl ?_
  refine WP_r rfl ?_
  refine s_val rfl (x_assign (by conv => lhs; whnf)) ?_
  refine s_end ?_
  refine WP_ret ?_
  refine thenQ_r ?_
  refine retQ_1 rfl (by conv => lhs; whnf) ?_
  exact ⟨rfl, e1⟩
theorem Sync_no {w : World} {p : Value} (h : NoD w p) : Calls Try.prog 11 #[p] w (Ret fun v w' => v = .int .i64 1 ∧ core w' = core w) := by
  refine calls_of Try.func11 rfl rfl ?_
  refine WP_r rfl ?_
  refine s_val rfl (x_assign (by conv => lhs; whnf)) ?_
  refine s_end ?_
  refine WP_seq ?_
  refine WP_block ?_
  refine WP_r rfl ?_
  refine s_val rfl (x_move (by conv => lhs; whnf)) ?_
  refine s_call rfl (by kernel_rfl) (is_no h) rfl rfl ?_
  rintro v w1 ⟨rfl, e1⟩
  refine s_val rfl (x_not rfl) ?_
  refine s_val rfl (x_assign (by conv => lhs; whnf)) ?_
  refine s_end ?_
  refine WP_cond_true rfl ?_
  refine WP_r rfl ?_
  refine s_val rfl (x_assign (by conv => lhs; whnf)) ?_
  refine s_end ?_
  refine WP_ret ?_
  refine blockQ_r ?_
  refine thenQ_r ?_
  refine retQ_1 rfl (by conv => lhs; whnf) ?_
  exact ⟨rfl, e1⟩
theorem Read_no {w : World} {p : Value} (h : NoD w p) (at_ : Int) : Calls Try.prog 16 #[p, .int .i64 at_] w (Ret fun v w' => v = .tuple #[.slice none 0 0, .int .i64 1] ∧ core w' = core w) := by
  refine calls_of Try.func16 rfl rfl ?_
  refine WP_r rfl ?_
  refine s_val rfl (x_assign (by conv => lhs; whnf)) ?_
  refine s_val rfl (x_assign (by conv => lhs; whnf)) ?_
  refine s_end ?_
  refine WP_r rfl ?_
  refine s_val rfl (x_move (by conv => lhs; whnf)) ?_
  refine s_val rfl (x_move (by conv => lhs; whnf)) ?_
  refine s_call rfl (by kernel_rfl) (look_no h at_) rfl rfl ?_
  rintro v w1 ⟨rfl, e1⟩
  refine s_val rfl (x_assign (by conv => lhs; whnf)) ?_
  refine s_end ?_
  refine WP_seq ?_
  refine WP_block ?_
  refine WP_r rfl ?_
  refine s_val rfl (x_move (by conv => lhs; whnf)) ?_
  refine s_val rfl (x_neq rfl rfl) ?_
  refine s_val rfl (x_assign (by conv => lhs; whnf)) ?_
  refine s_end ?_
  refine WP_cond_true rfl ?_
  refine WP_r rfl ?_
  refine s_val rfl (x_move (by conv => lhs; whnf)) ?_
  refine s_val rfl (x_assign (by conv => lhs; whnf)) ?_
  refine s_val rfl (x_assign (by conv => lhs; whnf)) ?_
  refine s_end ?_
  refine WP_ret ?_
  refine blockQ_r ?_
  refine thenQ_r ?_
  refine retQ_2 rfl (by conv => lhs; whnf) (by conv => lhs; whnf) ?_
  exact ⟨rfl, e1⟩
theorem Write_no {w : World} {p : Value} (h : NoD w p) (at_ : Int) (a : Option Addr) (n cap : Nat) : Calls Try.prog 12 #[p, .int .i64 at_, .slice a n cap] w (Ret fun v w' => v = .int .i64 1 ∧ core w' = core w) := by
  refine calls_of Try.func12 rfl rfl ?_
  refine WP_r rfl ?_
  refine s_val rfl (x_assign (by conv => lhs; whnf)) ?_
  refine s_end ?_
  refine WP_r rfl ?_
  refine s_val rfl (x_move (by conv => lhs; whnf)) ?_
  refine s_val rfl (x_move (by conv => lhs; whnf)) ?_
  refine s_call rfl (by kernel_rfl) (look_no h at_) rfl rfl ?_
  rintro v w1 ⟨rfl, e1⟩
  refine s_val rfl (x_assign (by conv => lhs; whnf)) ?_
  refine s_end ?_
  refine WP_seq ?_
  refine WP_block ?_
  refine WP_r rfl ?_
  refine s_val rfl (x_move (by conv => lhs; whnf)) ?_
  refine s_val rfl (x_neq rfl rfl) ?_
  refine s_val rfl (x_assign (by conv => lhs; whnf)) ?_
  refine s_end ?_
  refine WP_cond_true rfl ?_
  refine WP_r rfl ?_
  refine s_val rfl (x_move (by conv => lhs; whnf)) ?_
  refine s_val rfl (x_assign (by conv => lhs; whnf)) ?_
  refine s_end ?_
  refine WP_ret ?_
  refine blockQ_r ?_
  refine thenQ_r ?_
  refine retQ_1 rfl (by conv => lhs; whnf) ?_
  exact ⟨rfl, e1⟩
theorem Crash_no {w : World} {p : Value} (h : NoD w p) (a : Option Addr) (n cap : Nat) : Calls Try.prog 21 #[p, .slice a n cap] w (Ret fun v w' => v = .int .i64 1 ∧ Ext w w') := by
  have H := Sat.nil (Ext.refl w)
  refine calls_of Try.func21 rfl rfl ?_
  refine WP_r rfl ?_
  refine s_box rfl (v := .slice a n cap) (by conv => lhs; whnf) H ?_
  intro pb w1 H1
  have hE := H1.ext
  refine s_val rfl (x_assign (by conv => lhs; whnf)) ?_
  refine s_end ?_
  refine WP_seq ?_
  refine WP_r rfl ?_
  refine s_val rfl (x_move (by conv => lhs; whnf)) ?_
  refine s_call rfl (by kernel_rfl) (is_no (h.ext hE)) rfl rfl ?_
  rintro v w2 ⟨rfl, e2⟩
  replace H1 := H1.heapEq e2
  refine s_val rfl (x_not rfl) ?_
  refine s_end ?_
  refine WP_cond_true rfl ?_
  refine WP_r rfl ?_
  refine s_val rfl (x_assign (by conv => lhs; whnf)) ?_
  refine s_end ?_
  refine WP_ret ?_
  refine thenQ_r ?_
  refine retQ_1 rfl (by conv => lhs; whnf) ?_
  exact ⟨rfl, H1.ext⟩
theorem Image_no {w : World} {p : Value} (h : NoD w p) : Calls Try.prog 18 #[p] w (Ret fun v w' => v = .slice none 0 0 ∧ Ext w w') := by
  have H := Sat.nil (Ext.refl w)
  refine calls_of Try.func18 rfl rfl ?_
  refine WP_r rfl ?_
  refine s_val rfl (x_assign (by conv => lhs; whnf)) ?_
  refine s_end ?_
  refine WP_r rfl ?_
  refine s_val rfl (x_move (by conv => lhs; whnf)) ?_
  refine s_call rfl (by kernel_rfl) (Sure_no h) rfl rfl ?_
  rintro v w1 ⟨rfl, e1⟩
  replace H := H.heapEq e1
  replace h := h.heapEq e1
  clear e1
  refine s_val rfl (x_assign (by conv => lhs; whnf)) ?_
  refine s_end ?_
  refine WP_seq ?_
  refine WP_r rfl ?_
  refine s_val rfl (x_move (by conv => lhs; whnf)) ?_
  refine s_call rfl (by kernel_rfl) (written_no h) rfl rfl ?_
  rintro v w2 ⟨rfl, e2⟩
  replace H := H.heapEq e2
  clear e2
  refine s_rangeNil rfl (show Try.prog.underlying 47 = some (.map 3 3) by kernel_rfl) rfl H ?_
  clear H
  intro r w3 H
  refine s_end ?_
  refine WP_block ?_
  refine WP_loopA (α := Unit) (fun _ => [(3, .slice none 0 0), (10, .pointer (some ⟨r, 0, none⟩))]) (fun _ w' => Sat w w' [blk r (.mapIter none 0 #[] 0)]) (fun _ => 0) () ⟨rfl, rfl, trivial⟩ H ?_
  clear H
  intro _ ρ w4 H
  refine WP_r rfl ?_
  refine s_val rfl (x_nextNil rfl (H.heap (i := 0) rfl)) ?_
  refine s_val rfl (x_extract rfl rfl) ?_
  refine s_end ?_
  refine WP_seq ?_
  refine WP_cond_false rfl ?_
  refine WP_exit ?_
  refine thenQ_e ?_
  refine loopQ_e ?_
  refine blockQ_hit ?_
  refine thenQ_n ?_
  refine WP_r rfl ?_
  refine s_val rfl (x_move (by conv => lhs; whnf)) ?_
  refine s_val rfl (x_assign (by conv => lhs; whnf)) ?_
  refine s_end ?_
  refine WP_ret ?_
  refine retQ_1 rfl (by conv => lhs; whnf) ?_
  exact ⟨rfl, H.ext⟩
end Go.Sl
