/- The disk's small functions. -/
import Derived.Test.YthalgkfafoehkaaDisk1
namespace Go.Sl
open Go.Proofs

def dp (d : Nat) : Value := .pointer (some ⟨d, 0, none⟩)
theorem is_calls {w : World} {d : Nat} {x : D} (h : HoldD w d x) : Calls Try.prog 36 #[dp d] w (Ret fun v w' => v = .bool true ∧ core w' = core w) := by
  obtain ⟨a, cap, fb, mb, mm, ff, R⟩ := DISK.read h
  obtain ⟨A, rfl⟩ : ∃ A, a = some A := Option.isSome_iff_exists.1 R.isSome
  have c0 := R.c0
  refine calls_of Try.func36 rfl rfl ?_
  refine WP_r rfl ?_
  refine s_val rfl (x_assign (by conv => lhs; whnf)) ?_
  refine s_end ?_
  refine WP_r rfl ?_
  refine s_val rfl (x_move (by conv => lhs; whnf)) ?_
  refine s_val rfl (x_neqPtrNil (by kernel_rfl) rfl) ?_
  refine s_val rfl (x_move (by conv => lhs; whnf)) ?_
  refine s_val rfl (x_move (by conv => lhs; whnf)) ?_
  refine s_val rfl (x_nilCheck rfl) ?_
  refine s_val rfl (x_field (off := 0) (by kernel_rfl) rfl) ?_
  refine s_val rfl (x_load (by kernel_rfl) rfl (by first | assumption | exact H.cell (i := 0) rfl rfl | exact H.cell (i := 1) rfl rfl | exact H.cell (i := 2) rfl rfl | exact H.cell (i := 3) rfl rfl | exact H.cell (i := 4) rfl rfl | exact H.cell (i := 5) rfl rfl)) ?_
  refine s_val rfl (x_neqSlNil (by kernel_rfl) rfl) ?_
  refine s_val rfl (x_pick_true rfl (by conv => lhs; whnf)) ?_
  refine s_val rfl (x_assign (by conv => lhs; whnf)) ?_
  refine s_end ?_
  refine WP_ret ?_
  refine retQ_1 rfl (by conv => lhs; whnf) ?_
  exact ⟨rfl, rfl⟩
theorem is_nil {w : World} : Calls Try.prog 36 #[.pointer none] w (Ret fun v w' => v = .bool false ∧ core w' = core w) := by
  refine calls_of Try.func36 rfl rfl ?_
  refine WP_r rfl ?_
  refine s_val rfl (x_assign (by conv => lhs; whnf)) ?_
  refine s_end ?_
  refine WP_r rfl ?_
  refine s_val rfl (x_move (by conv => lhs; whnf)) ?_
  refine s_val rfl (x_neqPtrNil (by kernel_rfl) rfl) ?_
  refine s_val rfl (x_move (by conv => lhs; whnf)) ?_
  refine s_out rfl ?_
  refine s_out rfl ?_
  refine s_out rfl ?_
  refine s_out rfl ?_
  refine s_out rfl ?_
  refine s_val rfl (x_pick_false rfl (by conv => lhs; whnf)) ?_
  refine s_val rfl (x_assign (by conv => lhs; whnf)) ?_
  refine s_end ?_
  refine WP_ret ?_
  refine retQ_1 rfl (by conv => lhs; whnf) ?_
  exact ⟨rfl, rfl⟩
/-- A disk that no call made. -/
theorem is_zero {w : World} {d : Nat} (h : w.cell? ⟨d, 0, none⟩ = some (.slice none 0 0)) : Calls Try.prog 36 #[dp d] w (Ret fun v w' => v = .bool false ∧ core w' = core w) := by
  refine calls_of Try.func36 rfl rfl ?_
  refine WP_r rfl ?_
  refine s_val rfl (x_assign (by conv => lhs; whnf)) ?_
  refine s_end ?_
  refine WP_r rfl ?_
  refine s_val rfl (x_move (by conv => lhs; whnf)) ?_
  refine s_val rfl (x_neqPtrNil (by kernel_rfl) rfl) ?_
  refine s_val rfl (x_move (by conv => lhs; whnf)) ?_
  refine s_val rfl (x_move (by conv => lhs; whnf)) ?_
  refine s_val rfl (x_nilCheck rfl) ?_
  refine s_val rfl (x_field (off := 0) (by kernel_rfl) rfl) ?_
  refine s_val rfl (x_load (by kernel_rfl) rfl (by first | assumption | exact H.cell (i := 0) rfl rfl | exact H.cell (i := 1) rfl rfl | exact H.cell (i := 2) rfl rfl | exact H.cell (i := 3) rfl rfl | exact H.cell (i := 4) rfl rfl | exact H.cell (i := 5) rfl rfl)) ?_
  refine s_val rfl (x_neqSlNil (by kernel_rfl) rfl) ?_
  refine s_val rfl (x_pick_true rfl (by conv => lhs; whnf)) ?_
  refine s_val rfl (x_assign (by conv => lhs; whnf)) ?_
  refine s_end ?_
  refine WP_ret ?_
  refine retQ_1 rfl (by conv => lhs; whnf) ?_
  exact ⟨rfl, rfl⟩

def D.take (x : D) : Bool × D := if x.off = true ∨ x.left = 0 then (false, { x with off := true }) else (true, { x with left := max (-1) (x.left - 1), taken := IntKind.i64.wrap (x.taken + 1) })
theorem wrap_bounds (n : Int) : -9223372036854775808 ≤ IntKind.i64.wrap n ∧ IntKind.i64.wrap n ≤ 9223372036854775807 := by
  rw [IntKind.wrap_i64]; omega
theorem max_int (a b : Int) : (if b > a then b else a) = max a b := by omega
theorem take_calls {w0 w : World} {d : Nat} {x : D} {sh : List Fe} {F : HP} (H : Sat w0 w [DISK d x sh, F]) :
    Calls Try.prog 40 #[dp d] w (Ret fun v w' => v = .bool x.take.1 ∧ Sat w0 w' [DISK d x.take.2 sh, F]) := by
  obtain ⟨a, cap, fb, mb, mm, ff, fo, hok, hM, hF, hfo, H⟩ := DISK.openL H
  have hl := hok.left
  simp only [dlist, List.cons_append, List.nil_append] at H
  refine calls_of Try.func40 rfl rfl ?_
  refine WP_r rfl ?_
  refine s_val rfl (x_assign (by conv => lhs; whnf)) ?_
  refine s_end ?_
  refine WP_seq ?_
  refine WP_r rfl ?_
  refine s_val rfl (x_move (by conv => lhs; whnf)) ?_
  refine s_val rfl (x_nilCheck rfl) ?_
  refine s_val rfl (x_field (off := 4) (by kernel_rfl) rfl) ?_
  refine s_val rfl (x_load (by kernel_rfl) rfl (by first | assumption | exact H.cell (i := 0) rfl rfl | exact H.cell (i := 1) rfl rfl | exact H.cell (i := 2) rfl rfl | exact H.cell (i := 3) rfl rfl | exact H.cell (i := 4) rfl rfl | exact H.cell (i := 5) rfl rfl)) ?_
  refine s_bool rfl (x_move rfl) (fun h1 => ?_) (fun h1 => ?_)
  · skip
    refine s_out rfl ?_
    refine s_out rfl ?_
    refine s_out rfl ?_
    refine s_out rfl ?_
    refine s_out rfl ?_
    refine s_val rfl (x_pick_true rfl (by conv => lhs; whnf)) ?_
    refine s_end ?_
    refine WP_cond_true rfl ?_
    refine WP_r rfl ?_
    refine s_val rfl (x_move (by conv => lhs; whnf)) ?_
    refine s_val rfl (x_nilCheck rfl) ?_
    refine s_val rfl (x_field (off := 4) (by kernel_rfl) rfl) ?_
    refine s_store rfl (by kernel_rfl) rfl (by conv => lhs; whnf) rfl H (i := 0) rfl rfl ?_
    clear H; intro _ H
    simp only [List.set_cons_zero, List.set_cons_succ, List.setIfInBounds_toArray] at H
    refine s_end ?_
    refine WP_r rfl ?_
    refine s_val rfl (x_assign (by conv => lhs; whnf)) ?_
    refine s_end ?_
    refine WP_ret ?_
    refine thenQ_r ?_
    refine retQ_1 rfl (by conv => lhs; whnf) ?_
    have e : x.take = (false, { x with off := true }) := if_pos (by first | exact .inl h1 | exact .inr (by assumption))
    rw [e]
    exact ⟨rfl, DISK.closeL (x := { x with off := true }) ⟨hok.1, hok.2, hok.3, hok.4, hok.5, hok.6⟩ hM hF hfo H⟩
  · skip
    refine s_val rfl (x_move (by conv => lhs; whnf)) ?_
    refine s_val rfl (x_nilCheck rfl) ?_
    refine s_val rfl (x_field (off := 3) (by kernel_rfl) rfl) ?_
    refine s_val rfl (x_load (by kernel_rfl) rfl (by first | assumption | exact H.cell (i := 0) rfl rfl | exact H.cell (i := 1) rfl rfl | exact H.cell (i := 2) rfl rfl | exact H.cell (i := 3) rfl rfl | exact H.cell (i := 4) rfl rfl | exact H.cell (i := 5) rfl rfl)) ?_
    refine s_val rfl (x_eql rfl rfl) ?_
    refine s_val rfl (x_pick_false rfl (by conv => lhs; whnf)) ?_
    refine s_end ?_
    refine WP_cond_dec rfl (fun h2 => ?_) (fun h2 => ?_)
    · skip
      refine WP_r rfl ?_
      refine s_val rfl (x_move (by conv => lhs; whnf)) ?_
      refine s_val rfl (x_nilCheck rfl) ?_
      refine s_val rfl (x_field (off := 4) (by kernel_rfl) rfl) ?_
      refine s_store rfl (by kernel_rfl) rfl (by conv => lhs; whnf) rfl H (i := 0) rfl rfl ?_
      clear H; intro _ H
      simp only [List.set_cons_zero, List.set_cons_succ, List.setIfInBounds_toArray] at H
      refine s_end ?_
      refine WP_r rfl ?_
      refine s_val rfl (x_assign (by conv => lhs; whnf)) ?_
      refine s_end ?_
      refine WP_ret ?_
      refine thenQ_r ?_
      refine retQ_1 rfl (by conv => lhs; whnf) ?_
      have e : x.take = (false, { x with off := true }) := if_pos (by first | exact .inl h1 | exact .inr (by assumption))
      rw [e]
      exact ⟨rfl, DISK.closeL (x := { x with off := true }) ⟨hok.1, hok.2, hok.3, hok.4, hok.5, hok.6⟩ hM hF hfo H⟩
    · skip
      refine WP_skip ?_
      refine thenQ_n ?_
      refine WP_r rfl ?_
      refine s_val rfl (x_move (by conv => lhs; whnf)) ?_
      refine s_val rfl (x_move (by conv => lhs; whnf)) ?_
      refine s_val rfl (x_nilCheck rfl) ?_
      refine s_val rfl (x_field (off := 3) (by kernel_rfl) rfl) ?_
      refine s_val rfl (x_load (by kernel_rfl) rfl (by first | assumption | exact H.cell (i := 0) rfl rfl | exact H.cell (i := 1) rfl rfl | exact H.cell (i := 2) rfl rfl | exact H.cell (i := 3) rfl rfl | exact H.cell (i := 4) rfl rfl | exact H.cell (i := 5) rfl rfl)) ?_
      refine s_val rfl (x_subi rfl rfl (by omega)) ?_
      refine s_val rfl (x_max2 rfl rfl) ?_
      refine s_val rfl (x_nilCheck rfl) ?_
      refine s_val rfl (x_field (off := 3) (by kernel_rfl) rfl) ?_
      refine s_store rfl (by kernel_rfl) rfl (by conv => lhs; whnf) rfl H (i := 0) rfl rfl ?_
      clear H; intro _ H
      simp only [List.set_cons_zero, List.set_cons_succ, List.setIfInBounds_toArray] at H
      refine s_end ?_
      refine WP_r rfl ?_
      refine s_val rfl (x_move (by conv => lhs; whnf)) ?_
      refine s_val rfl (x_nilCheck rfl) ?_
      refine s_val rfl (x_field (off := 5) (by kernel_rfl) rfl) ?_
      refine s_val rfl (x_load (by kernel_rfl) rfl (by first | assumption | exact H.cell (i := 0) rfl rfl | exact H.cell (i := 1) rfl rfl | exact H.cell (i := 2) rfl rfl | exact H.cell (i := 3) rfl rfl | exact H.cell (i := 4) rfl rfl | exact H.cell (i := 5) rfl rfl)) ?_
      refine s_val rfl (x_add rfl rfl) ?_
      refine s_val rfl (x_nilCheck rfl) ?_
      refine s_val rfl (x_field (off := 5) (by kernel_rfl) rfl) ?_
      refine s_store rfl (by kernel_rfl) rfl (by conv => lhs; whnf) rfl H (i := 0) rfl rfl ?_
      clear H; intro _ H
      simp only [List.set_cons_zero, List.set_cons_succ, List.setIfInBounds_toArray] at H
      refine s_end ?_
      refine WP_r rfl ?_
      refine s_val rfl (x_assign (by conv => lhs; whnf)) ?_
      refine s_end ?_
      refine WP_ret ?_
      refine retQ_1 rfl (by conv => lhs; whnf) ?_
      have e : x.take = (true, { x with left := max (-1) (x.left - 1), taken := IntKind.i64.wrap (x.taken + 1) }) := if_neg fun h => h.elim (fun h => by rw [h1] at h; cases h) (fun h => h2 h)
      rw [e]
      exact ⟨rfl, DISK.closeL (x := { x with left := max (-1) (x.left - 1), taken := IntKind.i64.wrap (x.taken + 1) }) ⟨hok.1, hok.2, hok.3, hok.4, by show -1 ≤ max (-1) (x.left - 1) ∧ max (-1) (x.left - 1) ≤ 9223372036854775807; omega, wrap_bounds _⟩ hM hF hfo H⟩
theorem Sectors_calls {w : World} {d : Nat} {x : D} (h : HoldD w d x) : Calls Try.prog 13 #[dp d] w (Ret fun v w' => v = .int .i64 x.vals.length ∧ core w' = core w) := by
  have ⟨a, cap, fb, mb, mm, ff, R⟩ := DISK.read h
  have c0 := R.c0
  have hb := R.ok.big
  refine calls_of Try.func13 rfl rfl ?_
  refine WP_r rfl ?_
  refine s_val rfl (x_assign (by conv => lhs; whnf)) ?_
  refine s_end ?_
  refine WP_seq ?_
  refine WP_r rfl ?_
  refine s_val rfl (x_move (by conv => lhs; whnf)) ?_
  refine s_call rfl (by kernel_rfl) (is_calls h) rfl rfl ?_
  rintro v w1 ⟨rfl, e1⟩
  replace c0 := cell_heapEq e1 c0
  refine s_val rfl (x_not rfl) ?_
  refine s_end ?_
  refine WP_cond_false rfl ?_
  refine WP_skip ?_
  refine thenQ_n ?_
  refine WP_r rfl ?_
  refine s_val rfl (x_move (by conv => lhs; whnf)) ?_
  refine s_val rfl (x_nilCheck rfl) ?_
  refine s_val rfl (x_field (off := 0) (by kernel_rfl) rfl) ?_
  refine s_val rfl (x_load (by kernel_rfl) rfl (by first | assumption | exact H.cell (i := 0) rfl rfl | exact H.cell (i := 1) rfl rfl | exact H.cell (i := 2) rfl rfl | exact H.cell (i := 3) rfl rfl | exact H.cell (i := 4) rfl rfl | exact H.cell (i := 5) rfl rfl)) ?_
  refine s_val rfl (x_lenS (by kernel_rfl) rfl) ?_
  refine s_val rfl (x_quoi rfl rfl (by omega)) ?_
  refine s_val rfl (x_assign (by conv => lhs; whnf)) ?_
  refine s_end ?_
  refine WP_ret ?_
  refine retQ_1 rfl (by conv => lhs; whnf) ?_
  exact ⟨by rw [show ((256 * x.vals.length : Nat) : Int) / 256 = x.vals.length by omega], e1⟩
theorem Sectors_nil {w : World} : Calls Try.prog 13 #[.pointer none] w (Ret fun v w' => v = .int .i64 0 ∧ core w' = core w) := by
  refine calls_of Try.func13 rfl rfl ?_
  refine WP_r rfl ?_
  refine s_val rfl (x_assign (by conv => lhs; whnf)) ?_
  refine s_end ?_
  refine WP_seq ?_
  refine WP_r rfl ?_
  refine s_val rfl (x_move (by conv => lhs; whnf)) ?_
  refine s_call rfl (by kernel_rfl) (is_nil) rfl rfl ?_
  rintro v w1 ⟨rfl, e1⟩
  refine s_val rfl (x_not rfl) ?_
  refine s_end ?_
  refine WP_cond_true rfl ?_
  refine WP_r rfl ?_
  refine s_val rfl (x_assign (by conv => lhs; whnf)) ?_
  refine s_end ?_
  refine WP_ret ?_
  refine thenQ_r ?_
  refine retQ_1 rfl (by conv => lhs; whnf) ?_
  exact ⟨rfl, e1⟩

def D.lookE (x : D) (at_ : Int) : Int := if at_ < 0 ∨ (x.vals.length : Int) ≤ at_ then 2 else 0
theorem look_calls {w : World} {d : Nat} {x : D} (h : HoldD w d x) (at_ : Int) : Calls Try.prog 43 #[dp d, .int .i64 at_] w (Ret fun v w' => v = .int .i64 (x.lookE at_) ∧ core w' = core w) := by
  refine calls_of Try.func43 rfl rfl ?_
  refine WP_r rfl ?_
  refine s_val rfl (x_assign (by conv => lhs; whnf)) ?_
  refine s_end ?_
  refine WP_seq ?_
  refine WP_block ?_
  refine WP_r rfl ?_
  refine s_val rfl (x_move (by conv => lhs; whnf)) ?_
  refine s_call rfl (by kernel_rfl) (is_calls h) rfl rfl ?_
  rintro v w1 ⟨rfl, e1⟩
  refine s_val rfl (x_not rfl) ?_
  refine s_val rfl (x_assign (by conv => lhs; whnf)) ?_
  refine s_end ?_
  refine WP_cond_false rfl ?_
  refine WP_r rfl ?_
  refine s_val rfl (x_move (by conv => lhs; whnf)) ?_
  refine s_val rfl (x_lss rfl rfl) ?_
  refine s_dec rfl (x_move rfl) (fun h1 => ?_) (fun h1 => ?_)
  · skip
    refine s_out rfl ?_
    refine s_out rfl ?_
    refine s_out rfl ?_
    refine s_out rfl ?_
    refine s_val rfl (x_pick_true rfl (by conv => lhs; whnf)) ?_
    refine s_val rfl (x_assign (by conv => lhs; whnf)) ?_
    refine s_end ?_
    refine WP_cond_true rfl ?_
    refine WP_r rfl ?_
    refine s_val rfl (x_assign (by conv => lhs; whnf)) ?_
    refine s_end ?_
    refine WP_ret ?_
    refine blockQ_r ?_
    refine thenQ_r ?_
    refine retQ_1 rfl (by conv => lhs; whnf) ?_
    exact ⟨by unfold D.lookE; rw [if_pos (by omega)], e1⟩
  · skip
    refine s_val rfl (x_move (by conv => lhs; whnf)) ?_
    refine s_val rfl (x_move (by conv => lhs; whnf)) ?_
    refine s_call rfl (by kernel_rfl) (Sectors_calls (h.heapEq e1)) rfl rfl ?_
    rintro v w2 ⟨rfl, e2⟩
    replace e1 := e2.trans e1
    refine s_val rfl (x_geq rfl rfl) ?_
    refine s_val rfl (x_pick_false rfl (by conv => lhs; whnf)) ?_
    refine s_val rfl (x_assign (by conv => lhs; whnf)) ?_
    refine s_end ?_
    refine WP_cond_dec rfl (fun h2 => ?_) (fun h2 => ?_)
    · skip
      refine WP_r rfl ?_
      refine s_val rfl (x_assign (by conv => lhs; whnf)) ?_
      refine s_end ?_
      refine WP_ret ?_
      refine blockQ_r ?_
      refine thenQ_r ?_
      refine retQ_1 rfl (by conv => lhs; whnf) ?_
      exact ⟨by unfold D.lookE; rw [if_pos (by omega)], e1⟩
    · skip
      refine WP_skip ?_
      refine blockQ_n ?_
      refine thenQ_n ?_
      refine WP_r rfl ?_
      refine s_val rfl (x_assign (by conv => lhs; whnf)) ?_
      refine s_end ?_
      refine WP_ret ?_
      refine retQ_1 rfl (by conv => lhs; whnf) ?_
      exact ⟨by unfold D.lookE; rw [if_neg (by omega)], e1⟩
theorem look_nil {w : World} (at_ : Int) : Calls Try.prog 43 #[.pointer none, .int .i64 at_] w (Ret fun v w' => v = .int .i64 1 ∧ core w' = core w) := by
  refine calls_of Try.func43 rfl rfl ?_
  refine WP_r rfl ?_
  refine s_val rfl (x_assign (by conv => lhs; whnf)) ?_
  refine s_end ?_
  refine WP_seq ?_
  refine WP_block ?_
  refine WP_r rfl ?_
  refine s_val rfl (x_move (by conv => lhs; whnf)) ?_
  refine s_call rfl (by kernel_rfl) (is_nil) rfl rfl ?_
  rintro v w1 ⟨rfl, e1⟩
  refine s_val rfl (x_not rfl) ?_
  refine s_val rfl (x_assign (by conv => lhs; whnf)) ?_
  refine s_end ?_
  refine WP_cond_true rfl ?_
  refine WP_r rfl ?_
  refine s_val rfl (x_assign (by conv => lhs; whnf)) ?_
  refine s_end ?_
  refine WP_ret ?_
  refine blockQ_r ?_
  refine thenQ_r ?_
  refine retQ_1 rfl (by conv => lhs; whnf) ?_
  exact ⟨rfl, e1⟩
theorem Ops_calls {w : World} {d : Nat} {x : D} (h : HoldD w d x) : Calls Try.prog 20 #[dp d] w (Ret fun v w' => v = .int .i64 x.taken ∧ core w' = core w) := by
  obtain ⟨a, cap, fb, mb, mm, ff, R⟩ := DISK.read h
  have c5 := R.c5
  refine calls_of Try.func20 rfl rfl ?_
  refine WP_r rfl ?_
  refine s_val rfl (x_assign (by conv => lhs; whnf)) ?_
  refine s_end ?_
  refine WP_seq ?_
  refine WP_r rfl ?_
  refine s_val rfl (x_move (by conv => lhs; whnf)) ?_
  refine s_call rfl (by kernel_rfl) (is_calls h) rfl rfl ?_
  rintro v w1 ⟨rfl, e1⟩
  replace c5 := cell_heapEq e1 c5
  refine s_val rfl (x_not rfl) ?_
  refine s_end ?_
  refine WP_cond_false rfl ?_
  refine WP_skip ?_
  refine thenQ_n ?_
  refine WP_r rfl ?_
  refine s_val rfl (x_move (by conv => lhs; whnf)) ?_
  refine s_val rfl (x_nilCheck rfl) ?_
  refine s_val rfl (x_field (off := 5) (by kernel_rfl) rfl) ?_
  refine s_val rfl (x_load (by kernel_rfl) rfl (by first | assumption | exact H.cell (i := 0) rfl rfl | exact H.cell (i := 1) rfl rfl | exact H.cell (i := 2) rfl rfl | exact H.cell (i := 3) rfl rfl | exact H.cell (i := 4) rfl rfl | exact H.cell (i := 5) rfl rfl)) ?_
  refine s_val rfl (x_assign (by conv => lhs; whnf)) ?_
  refine s_end ?_
  refine WP_ret ?_
  refine retQ_1 rfl (by conv => lhs; whnf) ?_
  exact ⟨rfl, e1⟩
/-- How many sectors were written since the last sync. -/
def D.pend (x : D) : Nat := (x.vals.filter fun l => decide (1 < l.length)).length
theorem many_length {x : D} {mm : List (Int × Value)} (h : Many x mm) (hn : (mm.map (·.1)).Nodup) : mm.length = x.pend := by
  have key : ∀ (l : List (List Sect)) (k : Nat) (m : List Int), m.Nodup → (∀ n, n ∈ m ↔ ∃ (i : Nat) (v : List Sect), l[i]? = some v ∧ 1 < v.length ∧ n = ((k + i : Nat) : Int)) → m.length = (l.filter fun v => decide (1 < v.length)).length := by
    intro l
    induction l with
    | nil =>
      intro k m _ hm
      cases m with
      | nil => rfl
      | cons n m => obtain ⟨i, v, h, _⟩ := (hm n).1 (List.mem_cons_self ..); simp at h
    | cons u l ih =>
      intro k m hd hm
      by_cases hu : 1 < u.length
      · have hk : (k : Int) ∈ m := (hm k).2 ⟨0, u, rfl, hu, rfl⟩
        have hp : m.Perm ((k : Int) :: m.erase k) := List.perm_cons_erase hk
        rw [hp.length_eq, List.filter_cons_of_pos (by simpa using hu), List.length_cons, List.length_cons]
        congr 1
        refine ih (k + 1) (m.erase k) (hd.erase _) fun n => ?_
        rw [hd.mem_erase_iff, hm n]
        constructor
        · rintro ⟨hne, i, v, h1, h2, h3⟩
          cases i with
          | zero => exact absurd h3 hne
          | succ i => exact ⟨i, v, by simpa using h1, h2, by omega⟩
        · rintro ⟨i, v, h1, h2, h3⟩
          exact ⟨by omega, i + 1, v, by simpa using h1, h2, by omega⟩
      · rw [List.filter_cons_of_neg (by simpa using hu)]
        refine ih (k + 1) m hd fun n => ?_
        rw [hm n]
        constructor
        · rintro ⟨i, v, h1, h2, h3⟩
          cases i with
          | zero => simp at h1; subst h1; exact absurd h2 hu
          | succ i => exact ⟨i, v, by simpa using h1, h2, by omega⟩
        · rintro ⟨i, v, h1, h2, h3⟩
          exact ⟨i + 1, v, by simpa using h1, h2, by omega⟩
  have := key x.vals 0 (mm.map (·.1)) hn fun n => by
    rw [List.mem_map]
    constructor
    · rintro ⟨⟨k, v⟩, hp, rfl⟩
      obtain ⟨i, l, h1, h2, h3, _⟩ := (h k v).1 hp
      exact ⟨i, l, h1, h2, by simpa using h3⟩
    · rintro ⟨i, l, h1, h2, h3⟩
      exact ⟨(n, .int .i64 ((l.length - 1 : Nat) : Int)), (h _ _).2 ⟨i, l, h1, h2, by simpa using h3, rfl⟩, rfl⟩
  simpa [D.pend] using this
theorem Pending_calls {w : World} {d : Nat} {x : D} (h : HoldD w d x) : Calls Try.prog 22 #[dp d] w (Ret fun v w' => v = .int .i64 x.pend ∧ core w' = core w) := by
  obtain ⟨a, cap, fb, mb, mm, ff, R⟩ := DISK.read h
  have c2 := R.c2
  have HM := R.mapM
  have hlen : mm.length = x.pend := by
    obtain ⟨es, clock, _, hm⟩ := R.mapM
    exact many_length R.many hm.nodup
  refine calls_of Try.func22 rfl rfl ?_
  refine WP_r rfl ?_
  refine s_val rfl (x_assign (by conv => lhs; whnf)) ?_
  refine s_end ?_
  refine WP_seq ?_
  refine WP_r rfl ?_
  refine s_val rfl (x_move (by conv => lhs; whnf)) ?_
  refine s_call rfl (by kernel_rfl) (is_calls h) rfl rfl ?_
  rintro v w1 ⟨rfl, e1⟩
  replace c2 := cell_heapEq e1 c2
  replace HM := HM.heapEq e1
  refine s_val rfl (x_not rfl) ?_
  refine s_end ?_
  refine WP_cond_false rfl ?_
  refine WP_skip ?_
  refine thenQ_n ?_
  refine WP_r rfl ?_
  refine s_val rfl (x_move (by conv => lhs; whnf)) ?_
  refine s_val rfl (x_nilCheck rfl) ?_
  refine s_val rfl (x_field (off := 2) (by kernel_rfl) rfl) ?_
  refine s_val rfl (x_load (by kernel_rfl) rfl (by first | assumption | exact H.cell (i := 0) rfl rfl | exact H.cell (i := 1) rfl rfl | exact H.cell (i := 2) rfl rfl | exact H.cell (i := 3) rfl rfl | exact H.cell (i := 4) rfl rfl | exact H.cell (i := 5) rfl rfl)) ?_
  refine s_val rfl (x_lenMap (show Try.prog.underlying 47 = some (.map 3 3) by kernel_rfl) rfl HM) ?_
  refine s_val rfl (x_assign (by conv => lhs; whnf)) ?_
  refine s_end ?_
  refine WP_ret ?_
  refine retQ_1 rfl (by conv => lhs; whnf) ?_
  exact ⟨by rw [hlen], e1⟩
def D.limit (x : D) (n : Int) : D := { x with left := max (-1) n }
theorem Limit_calls {w0 w : World} {d : Nat} {x : D} {sh : List Fe} {F : HP} (hsh : RO w0 F sh) (H : Sat w0 w [DISK d x sh, F]) (n : Int) (hn : n ≤ 9223372036854775807) :
    Calls Try.prog 10 #[dp d, .int .i64 n] w (Ret fun v w' => v = .tuple #[] ∧ Sat w0 w' [DISK d (x.limit n) sh, F]) := by
  refine calls_of Try.func10 rfl rfl ?_
  refine WP_r rfl ?_
  refine s_val rfl (x_move (by conv => lhs; whnf)) ?_
  refine s_call rfl (by kernel_rfl) (is_calls (H.holdD (i := 0) rfl (j := 1) rfl hsh)) rfl rfl ?_
  rintro v w1 ⟨rfl, e1⟩
  replace H := H.heapEq e1
  clear e1
  obtain ⟨a, cap, fb, mb, mm, ff, fo, hok, hM, hF, hfo, H⟩ := DISK.openL H
  simp only [dlist, List.cons_append, List.nil_append] at H
  refine s_end ?_
  refine WP_cond_true rfl ?_
  refine WP_region rfl ?_
  refine s_val rfl (x_move (by conv => lhs; whnf)) ?_
  refine s_val rfl (x_move (by conv => lhs; whnf)) ?_
  refine s_val rfl (x_max2 rfl rfl) ?_
  refine s_val rfl (x_nilCheck rfl) ?_
  refine s_val rfl (x_field (off := 3) (by kernel_rfl) rfl) ?_
  refine s_store rfl (by kernel_rfl) rfl (by conv => lhs; whnf) rfl H (i := 0) rfl rfl ?_
  clear H; intro _ H
  simp only [List.set_cons_zero, List.set_cons_succ, List.setIfInBounds_toArray] at H
  refine s_end ?_
  refine retQ_0n rfl ?_
  exact ⟨rfl, DISK.closeL (x := x.limit n) ⟨hok.1, hok.2, hok.3, hok.4, by show -1 ≤ max (-1) n ∧ max (-1) n ≤ 9223372036854775807; omega, hok.6⟩ hM hF hfo H⟩
theorem Limit_nil {w : World} (n : Int) : Calls Try.prog 10 #[.pointer none, .int .i64 n] w (Ret fun v w' => v = .tuple #[] ∧ core w' = core w) := by
  refine calls_of Try.func10 rfl rfl ?_
  refine WP_r rfl ?_
  refine s_val rfl (x_move (by conv => lhs; whnf)) ?_
  refine s_call rfl (by kernel_rfl) (is_nil) rfl rfl ?_
  rintro v w1 ⟨rfl, e1⟩
  refine s_end ?_
  refine WP_cond_false rfl ?_
  refine WP_skip ?_
  refine retQ_0n rfl ?_
  exact ⟨rfl, e1⟩
theorem written_calls {w : World} {d : Nat} {x : D} {mb : Nat} (h : HoldD w d x) (c2 : w.cell? ⟨d, 2, none⟩ = some (.map (some mb))) :
    Calls Try.prog 45 #[dp d] w (Ret fun v w' => v = .map (some mb) ∧ core w' = core w) := by
  refine calls_of Try.func45 rfl rfl ?_
  refine WP_r rfl ?_
  refine s_val rfl (x_assign (by conv => lhs; whnf)) ?_
  refine s_end ?_
  refine WP_seq ?_
  refine WP_r rfl ?_
  refine s_val rfl (x_move (by conv => lhs; whnf)) ?_
  refine s_call rfl (by kernel_rfl) (is_calls h) rfl rfl ?_
  rintro v w1 ⟨rfl, e1⟩
  replace c2 := cell_heapEq e1 c2
  refine s_val rfl (x_not rfl) ?_
  refine s_end ?_
  refine WP_cond_false rfl ?_
  refine WP_skip ?_
  refine thenQ_n ?_
  refine WP_r rfl ?_
  refine s_val rfl (x_move (by conv => lhs; whnf)) ?_
  refine s_val rfl (x_nilCheck rfl) ?_
  refine s_val rfl (x_field (off := 2) (by kernel_rfl) rfl) ?_
  refine s_val rfl (x_load (by kernel_rfl) rfl (by first | assumption | exact H.cell (i := 0) rfl rfl | exact H.cell (i := 1) rfl rfl | exact H.cell (i := 2) rfl rfl | exact H.cell (i := 3) rfl rfl | exact H.cell (i := 4) rfl rfl | exact H.cell (i := 5) rfl rfl)) ?_
  refine s_val rfl (x_assign (by conv => lhs; whnf)) ?_
  refine s_end ?_
  refine WP_ret ?_
  refine retQ_1 rfl (by conv => lhs; whnf) ?_
  exact ⟨rfl, e1⟩
end Go.Sl
