/- The chapter's example works; no disk does nothing. -/
import Derived.Test.YthalgkfafoehkaaDisk12
namespace Go.Sl
open Go.Proofs

def W1 : D := ⟨[[zsect, fullS 97], [zsect]], -1, false, 1⟩
def W2 : D := ⟨[[fullS 97], [zsect]], -1, false, 2⟩
def W3 : D := ⟨[[fullS 97, fullS 98], [zsect]], -1, false, 3⟩
def W4 : D := ⟨[[fullS 97, fullS 98, fullS 99], [zsect]], -1, false, 4⟩
def W5 : D := ⟨[[fullS 98], [zsect]], -1, false, 4⟩
def W6 : D := ⟨[[fullS 97], [zsect]], -1, false, 4⟩
theorem wk1 : ((D.zero 2).write 0 (fullS 97)).2 = W1 := by kernel_rfl
theorem wk2 : W1.sync.2 = W2 := by kernel_rfl
theorem wk3 : (W2.write 0 (fullS 98)).2 = W3 := by kernel_rfl
theorem wk4 : (W3.write 0 (fullS 99)).2 = W4 := by kernel_rfl
theorem wk5 : W4.crash [1] = W5 := by kernel_rfl
theorem wk6 : W4.crash [] = W6 := by kernel_rfl
theorem wk7 : W5.read 0 = (0, fullS 98) := by kernel_rfl
theorem wk8 : W6.read 0 = (0, fullS 97) := by kernel_rfl
theorem wk9 : W4.pend = 1 := by kernel_rfl
theorem small2 {x : D} {a b : List Sect} (h : x.vals = [a, b]) (ha : a.length < 100) (hb : b.length < 100) : ∀ l ∈ x.vals, l.length < 4611686018427387904 := fun l hl => by
  rw [h] at hl
  simp only [List.mem_cons, List.not_mem_nil, or_false] at hl
  rcases hl with rfl | rfl <;> omega
theorem RO.nil (w0 : World) (F : HP) : RO w0 F [] := fun _ _ e he => by cases he
theorem works_calls {w : World} : Calls Try.prog 6 #[] w (Ret fun v w' => v = .bool true ∧ Ext w w') := by
  refine calls_of Try.func6 rfl rfl ?_
  refine WP_r rfl ?_
  refine s_val rfl (x_assign (by conv => lhs; whnf)) ?_
  refine s_end ?_
  refine WP_r rfl ?_
  refine s_call rfl (by kernel_rfl) (New_calls 2) rfl rfl ?_
  rintro v w1 ⟨_, hv⟩
  obtain ⟨d, rfl, H⟩ := hv (by omega)
  replace H : Sat w w1 [DISK d (D.zero 2) [], emp] := H.addEmps 1
  refine s_val rfl (x_move (by conv => lhs; whnf)) ?_
  refine s_val rfl (x_extract rfl rfl) ?_
  refine s_val rfl (x_extract rfl rfl) ?_
  refine s_val rfl (x_assign (by conv => lhs; whnf)) ?_
  refine s_val rfl (x_assign (by conv => lhs; whnf)) ?_
  refine s_end ?_
  refine WP_seq ?_
  refine WP_r rfl ?_
  refine s_val rfl (x_move (by conv => lhs; whnf)) ?_
  refine s_val rfl (x_eqlPtrNil (by kernel_rfl) rfl) ?_
  refine s_val rfl (x_move (by conv => lhs; whnf)) ?_
  refine s_val rfl (x_move (by conv => lhs; whnf)) ?_
  refine s_val rfl (x_neq rfl rfl) ?_
  refine s_val rfl (x_pick_false rfl (by conv => lhs; whnf)) ?_
  refine s_end ?_
  refine WP_cond_false rfl ?_
  refine WP_skip ?_
  refine thenQ_n ?_
  refine WP_r rfl ?_
  refine s_val rfl (x_move (by conv => lhs; whnf)) ?_
  refine s_call rfl (by kernel_rfl) (full_calls 97) rfl rfl ?_
  rintro v w2 ⟨a1, rfl, H2⟩
  replace H := H.more H2
  simp only [List.cons_append, List.nil_append] at H
  refine s_call rfl (by kernel_rfl) (Write_at H (i := 0) rfl (j := 0) rfl (RO.nil _ _) 0 (k := 1) rfl (small2 (x := D.zero 2) rfl (by decide) (by decide))) rfl rfl ?_
  clear H2 H
  rintro v w3 ⟨_, H⟩
  rw [wk1] at H
  replace H := H.drop 2
  refine s_end ?_
  refine WP_r rfl ?_
  refine s_val rfl (x_move (by conv => lhs; whnf)) ?_
  refine s_call rfl (by kernel_rfl) (Sync_at H (i := 0) rfl (j := 0) rfl (RO.nil _ _)) rfl rfl ?_
  clear H
  rintro v w4 ⟨_, H⟩
  rw [wk2] at H
  refine s_end ?_
  refine WP_r rfl ?_
  refine s_val rfl (x_move (by conv => lhs; whnf)) ?_
  refine s_call rfl (by kernel_rfl) (full_calls 98) rfl rfl ?_
  rintro v w5 ⟨a2, rfl, H2⟩
  replace H := H.more H2
  refine s_call rfl (by kernel_rfl) (Write_at H (i := 0) rfl (j := 0) rfl (RO.nil _ _) 0 (k := 1) rfl (small2 (x := W2) rfl (by decide) (by decide))) rfl rfl ?_
  clear H2 H
  rintro v w6 ⟨_, H⟩
  rw [wk3] at H
  replace H := H.drop 2
  refine s_end ?_
  refine WP_r rfl ?_
  refine s_val rfl (x_move (by conv => lhs; whnf)) ?_
  refine s_call rfl (by kernel_rfl) (full_calls 99) rfl rfl ?_
  rintro v w7 ⟨a3, rfl, H2⟩
  replace H := H.more H2
  refine s_call rfl (by kernel_rfl) (Write_at H (i := 0) rfl (j := 0) rfl (RO.nil _ _) 0 (k := 1) rfl (small2 (x := W3) rfl (by decide) (by decide))) rfl rfl ?_
  clear H2 H
  rintro v w8 ⟨_, H⟩
  rw [wk4] at H
  replace H : Sat w w8 [DISK d W4 [], emp, emp] := (H.drop 2).addEmps 1
  refine s_end ?_
  refine WP_r rfl ?_
  refine s_val rfl (x_move (by conv => lhs; whnf)) ?_
  refine s_call rfl (by kernel_rfl) (Clone_calls (RO.nil _ _) H) rfl rfl ?_
  clear H
  rintro v w9 ⟨c, S, sh, rfl, hsh, H⟩
  refine s_val rfl (x_assign (by conv => lhs; whnf)) ?_
  refine s_end ?_
  refine WP_seq ?_
  refine WP_r rfl ?_
  refine s_val rfl (x_move (by conv => lhs; whnf)) ?_
  refine s_val rfl (x_eqlPtrNil (by kernel_rfl) rfl) ?_
  refine s_val rfl (x_move (by conv => lhs; whnf)) ?_
  refine s_val rfl (x_move (by conv => lhs; whnf)) ?_
  refine s_call rfl (by kernel_rfl) (Pending_calls (H.holdD (i := 0) rfl (j := 3) rfl hsh)) rfl rfl ?_
  rintro v w10 ⟨rfl, e⟩
  rw [wk9]
  replace H := H.heapEq e
  refine s_val rfl (x_neq rfl rfl) ?_
  refine s_val rfl (x_pick_false rfl (by conv => lhs; whnf)) ?_
  refine s_val rfl (x_move (by conv => lhs; whnf)) ?_
  refine s_val rfl (x_move (by conv => lhs; whnf)) ?_
  refine s_call rfl (by kernel_rfl) (Ops_calls (H.holdD (i := 0) rfl (j := 3) rfl hsh)) rfl rfl ?_
  rintro v w11 ⟨rfl, e⟩
  replace H := H.heapEq e
  refine s_val rfl (x_neq rfl rfl) ?_
  refine s_val rfl (x_pick_false rfl (by conv => lhs; whnf)) ?_
  refine s_end ?_
  refine WP_cond_false rfl ?_
  refine WP_skip ?_
  refine thenQ_n ?_
  refine WP_r rfl ?_
  refine s_val rfl (x_move (by conv => lhs; whnf)) ?_
  refine s_buildSlice (vs := [.int .i64 1]) rfl (show SlT Try.prog 31 3 1 8 from ⟨by kernel_rfl, by kernel_rfl⟩) zInt rfl rfl (by simp [Value.cells]) (by decide) H ?_
  clear H
  intro b w12 H
  replace H : Sat w w12 [DISK d W4 sh, DISK c W4 sh, emp, stars [S, emp], slo 3 1 (some ⟨b, 0, none⟩) 1 1 (([1] : List Int).map intF)] := H
  refine s_call rfl (by kernel_rfl) (Crash_at H (i := 0) rfl (j := 2) rfl hsh (k := 3) (picks := [1]) rfl) rfl rfl ?_
  clear H
  rintro v w13 ⟨_, H⟩
  rw [wk5] at H
  simp only [List.set_cons_zero] at H
  refine s_end ?_
  refine WP_r rfl ?_
  refine s_val rfl (x_move (by conv => lhs; whnf)) ?_
  refine s_call rfl (by kernel_rfl) (Crash_at0 H (i := 1) rfl (j := 2) rfl hsh) rfl rfl ?_
  clear H
  rintro v w14 ⟨_, H⟩
  rw [wk6] at H
  simp only [List.set_cons_zero, List.set_cons_succ] at H
  refine s_end ?_
  refine WP_r rfl ?_
  refine s_val rfl (x_move (by conv => lhs; whnf)) ?_
  refine s_call rfl (by kernel_rfl) (Read_calls (H.holdD (i := 0) rfl (j := 3) rfl hsh) 0) rfl rfl ?_
  rintro v w15 ⟨a4, n4, c4, rfl, H4⟩
  rw [wk7] at H4 ⊢
  replace H := H.more H4
  clear H4
  refine s_val rfl (x_move (by conv => lhs; whnf)) ?_
  refine s_val rfl (x_extract rfl rfl) ?_
  refine s_val rfl (x_extract rfl rfl) ?_
  refine s_val rfl (x_assign (by conv => lhs; whnf)) ?_
  refine s_val rfl (x_assign (by conv => lhs; whnf)) ?_
  refine s_end ?_
  refine WP_r rfl ?_
  refine s_val rfl (x_move (by conv => lhs; whnf)) ?_
  refine s_call rfl (by kernel_rfl) (Read_calls (H.holdD (i := 1) rfl (j := 3) rfl hsh) 0) rfl rfl ?_
  rintro v w16 ⟨a5, n5, c5, rfl, H5⟩
  rw [wk8] at H5 ⊢
  replace H := H.more H5
  clear H5
  simp only [List.cons_append, List.nil_append] at H
  refine s_val rfl (x_move (by conv => lhs; whnf)) ?_
  refine s_val rfl (x_extract rfl rfl) ?_
  refine s_val rfl (x_extract rfl rfl) ?_
  refine s_val rfl (x_assign (by conv => lhs; whnf)) ?_
  refine s_val rfl (x_assign (by conv => lhs; whnf)) ?_
  refine s_end ?_
  refine WP_r rfl ?_
  refine s_val rfl (x_move (by conv => lhs; whnf)) ?_
  refine s_call rfl (by kernel_rfl) (full_calls 98) rfl rfl ?_
  rintro v w17 ⟨a6, rfl, H6⟩
  replace H := H.more H6
  clear H6
  have hl4 : n4 = 256 := by
    have h := (H.rd (i := 5) rfl).1
    rw [bys_length, fullS_len] at h; omega
  have hl5 : n5 = 256 := by
    have h := (H.rd (i := 6) rfl).1
    rw [bys_length, fullS_len] at h; omega
  subst hl4 hl5
  refine s_call rfl (by kernel_rfl) (SameBytes_calls (H.rd (i := 5) rfl) (H.rd (i := 7) rfl) (by decide)) rfl rfl ?_
  rintro v w18 ⟨rfl, e18⟩
  rw [decide_eq_true (rfl : fullS 98 = fullS 98)]
  replace H := H.heapEq e18
  clear e18
  refine s_val rfl (x_move (by conv => lhs; whnf)) ?_
  refine s_val rfl (x_move (by conv => lhs; whnf)) ?_
  refine s_call rfl (by kernel_rfl) (full_calls 97) rfl rfl ?_
  rintro v w19 ⟨a7, rfl, H7⟩
  replace H := H.more H7
  clear H7
  refine s_call rfl (by kernel_rfl) (SameBytes_calls (H.rd (i := 6) rfl) (H.rd (i := 8) rfl) (by decide)) rfl rfl ?_
  rintro v w20 ⟨rfl, e20⟩
  rw [decide_eq_true (rfl : fullS 97 = fullS 97)]
  replace H := H.heapEq e20
  clear e20
  refine s_val rfl (x_pick_true rfl (by conv => lhs; whnf)) ?_
  refine s_val rfl (x_move (by conv => lhs; whnf)) ?_
  refine s_val rfl (x_move (by conv => lhs; whnf)) ?_
  refine s_call rfl (by kernel_rfl) (Image_calls (H.holdD (i := 0) rfl (j := 3) rfl hsh)) rfl rfl ?_
  rintro v w21 ⟨a8, c8, rfl, H8⟩
  replace H := H.more H8
  refine s_val rfl (x_lenS (by kernel_rfl) rfl) ?_
  refine s_val rfl (x_eql rfl rfl) ?_
  refine s_val rfl (x_pick_true rfl (by conv => lhs; whnf)) ?_
  refine s_val rfl (x_assign (by conv => lhs; whnf)) ?_
  refine s_end ?_
  refine WP_ret ?_
  refine retQ_1 rfl (by conv => lhs; whnf) ?_
  exact ⟨rfl, H.ext⟩
theorem DiskNone_calls {w : World} (at_ : Int) : Calls Try.prog 4 #[.int .i64 at_] w (Ret fun v w' => v = .bool true ∧ Ext w w') := by
  refine calls_of Try.func4 rfl rfl ?_
  refine WP_r rfl ?_
  refine s_val rfl (x_assign (by conv => lhs; whnf)) ?_
  refine s_end ?_
  refine WP_seq ?_
  refine WP_r rfl ?_
  refine s_call rfl (by kernel_rfl) (works_calls) rfl rfl ?_
  rintro v w1 ⟨rfl, hE⟩
  refine s_val rfl (x_not rfl) ?_
  refine s_end ?_
  refine WP_cond_false rfl ?_
  refine WP_skip ?_
  refine thenQ_n ?_
  refine WP_r rfl ?_
  refine s_val rfl (x_assign (by conv => lhs; whnf)) ?_
  refine s_end ?_
  refine WP_r rfl ?_
  refine s_alloc rfl (show ZeroT Try.prog 49 (.agg #[.slice none 0 0, .map none, .map none, .int .i64 0, .bool false, .int .i64 0]) by unfold ZeroT; kernel_rfl) (Sat.nil hE) ?_
  intro z w2 H
  have hn : NoD w2 (dp z) := .inr ⟨z, rfl, H.cell (i := 0) (off := 0) rfl rfl⟩
  have h0 : ∀ w, NoD w (.pointer none) := fun _ => .inl rfl
  replace hE := H.ext
  clear H
  refine s_end ?_
  refine WP_r rfl ?_
  refine s_val rfl (x_move (by conv => lhs; whnf)) ?_
  refine s_val rfl (x_move (by conv => lhs; whnf)) ?_
  refine s_call rfl (by kernel_rfl) (Read_no (h0 _) at_) rfl rfl ?_
  rintro v w3 ⟨rfl, e⟩
  replace hn := hn.heapEq e
  replace hE := hE.heapEq e
  clear e
  refine s_val rfl (x_move (by conv => lhs; whnf)) ?_
  refine s_val rfl (x_extract rfl rfl) ?_
  refine s_val rfl (x_extract rfl rfl) ?_
  refine s_val rfl (x_assign (by conv => lhs; whnf)) ?_
  refine s_val rfl (x_assign (by conv => lhs; whnf)) ?_
  refine s_end ?_
  refine WP_r rfl ?_
  refine s_val rfl (x_move (by conv => lhs; whnf)) ?_
  refine s_call rfl (by kernel_rfl) (Read_no hn at_) rfl rfl ?_
  rintro v w4 ⟨rfl, e⟩
  replace hn := hn.heapEq e
  replace hE := hE.heapEq e
  clear e
  refine s_val rfl (x_move (by conv => lhs; whnf)) ?_
  refine s_val rfl (x_extract rfl rfl) ?_
  refine s_val rfl (x_extract rfl rfl) ?_
  refine s_val rfl (x_assign (by conv => lhs; whnf)) ?_
  refine s_val rfl (x_assign (by conv => lhs; whnf)) ?_
  refine s_end ?_
  refine WP_r rfl ?_
  refine s_val rfl (x_move (by conv => lhs; whnf)) ?_
  refine s_val rfl (x_move (by conv => lhs; whnf)) ?_
  refine s_call rfl (by kernel_rfl) (Limit_no (h0 _) at_) rfl rfl ?_
  rintro v w5 ⟨rfl, e⟩
  replace hn := hn.heapEq e
  replace hE := hE.heapEq e
  clear e
  refine s_end ?_
  refine WP_r rfl ?_
  refine s_val rfl (x_move (by conv => lhs; whnf)) ?_
  refine s_call rfl (by kernel_rfl) (Limit_no hn at_) rfl rfl ?_
  rintro v w6 ⟨rfl, e⟩
  replace hn := hn.heapEq e
  replace hE := hE.heapEq e
  clear e
  refine s_end ?_
  refine WP_r rfl ?_
  refine s_val rfl (x_move (by conv => lhs; whnf)) ?_
  refine s_val rfl (x_eql rfl rfl) ?_
  refine s_val rfl (x_move (by conv => lhs; whnf)) ?_
  refine s_val rfl (x_move (by conv => lhs; whnf)) ?_
  refine s_val rfl (x_move (by conv => lhs; whnf)) ?_
  refine s_val rfl (x_eql rfl rfl) ?_
  refine s_val rfl (x_pick_true rfl (by conv => lhs; whnf)) ?_
  refine s_val rfl (x_move (by conv => lhs; whnf)) ?_
  refine s_val rfl (x_move (by conv => lhs; whnf)) ?_
  refine s_val rfl (x_move (by conv => lhs; whnf)) ?_
  refine s_call rfl (by kernel_rfl) (full_calls 1) rfl rfl ?_
  rintro v w7 ⟨a1, rfl, H7⟩
  replace hn := hn.ext H7.ext
  replace hE := hE.trans H7.ext
  clear H7
  refine s_call rfl (by kernel_rfl) (Write_no (h0 _) at_ _ _ _) rfl rfl ?_
  rintro v w8 ⟨rfl, e⟩
  replace hn := hn.heapEq e
  replace hE := hE.heapEq e
  clear e
  refine s_val rfl (x_move (by conv => lhs; whnf)) ?_
  refine s_val rfl (x_eql rfl rfl) ?_
  refine s_val rfl (x_pick_true rfl (by conv => lhs; whnf)) ?_
  refine s_val rfl (x_move (by conv => lhs; whnf)) ?_
  refine s_val rfl (x_move (by conv => lhs; whnf)) ?_
  refine s_call rfl (by kernel_rfl) (full_calls 1) rfl rfl ?_
  rintro v w9 ⟨a2, rfl, H9⟩
  replace hn := hn.ext H9.ext
  replace hE := hE.trans H9.ext
  clear H9
  refine s_call rfl (by kernel_rfl) (Write_no hn at_ _ _ _) rfl rfl ?_
  rintro v w10 ⟨rfl, e⟩
  replace hn := hn.heapEq e
  replace hE := hE.heapEq e
  clear e
  refine s_val rfl (x_move (by conv => lhs; whnf)) ?_
  refine s_val rfl (x_eql rfl rfl) ?_
  refine s_val rfl (x_pick_true rfl (by conv => lhs; whnf)) ?_
  refine s_val rfl (x_move (by conv => lhs; whnf)) ?_
  refine s_val rfl (x_move (by conv => lhs; whnf)) ?_
  refine s_call rfl (by kernel_rfl) (Sync_no (h0 _)) rfl rfl ?_
  rintro v w11 ⟨rfl, e⟩
  replace hn := hn.heapEq e
  replace hE := hE.heapEq e
  clear e
  refine s_val rfl (x_move (by conv => lhs; whnf)) ?_
  refine s_val rfl (x_eql rfl rfl) ?_
  refine s_val rfl (x_pick_true rfl (by conv => lhs; whnf)) ?_
  refine s_val rfl (x_move (by conv => lhs; whnf)) ?_
  refine s_call rfl (by kernel_rfl) (Sync_no hn) rfl rfl ?_
  rintro v w12 ⟨rfl, e⟩
  replace hn := hn.heapEq e
  replace hE := hE.heapEq e
  clear e
  refine s_val rfl (x_move (by conv => lhs; whnf)) ?_
  refine s_val rfl (x_eql rfl rfl) ?_
  refine s_val rfl (x_pick_true rfl (by conv => lhs; whnf)) ?_
  refine s_val rfl (x_move (by conv => lhs; whnf)) ?_
  refine s_val rfl (x_move (by conv => lhs; whnf)) ?_
  refine s_call rfl (by kernel_rfl) (Crash_no (h0 _) _ _ _) rfl rfl ?_
  rintro v w13 ⟨rfl, e⟩
  replace hn := hn.ext e
  replace hE := hE.trans e
  clear e
  refine s_val rfl (x_move (by conv => lhs; whnf)) ?_
  refine s_val rfl (x_eql rfl rfl) ?_
  refine s_val rfl (x_pick_true rfl (by conv => lhs; whnf)) ?_
  refine s_val rfl (x_move (by conv => lhs; whnf)) ?_
  refine s_call rfl (by kernel_rfl) (Crash_no hn _ _ _) rfl rfl ?_
  rintro v w14 ⟨rfl, e⟩
  replace hn := hn.ext e
  replace hE := hE.trans e
  clear e
  refine s_val rfl (x_move (by conv => lhs; whnf)) ?_
  refine s_val rfl (x_eql rfl rfl) ?_
  refine s_val rfl (x_pick_true rfl (by conv => lhs; whnf)) ?_
  refine s_val rfl (x_move (by conv => lhs; whnf)) ?_
  refine s_val rfl (x_move (by conv => lhs; whnf)) ?_
  refine s_call rfl (by kernel_rfl) (Sectors_no (h0 _)) rfl rfl ?_
  rintro v w15 ⟨rfl, e⟩
  replace hn := hn.heapEq e
  replace hE := hE.heapEq e
  clear e
  refine s_call rfl (by kernel_rfl) (Sectors_no hn) rfl rfl ?_
  rintro v w16 ⟨rfl, e⟩
  replace hn := hn.heapEq e
  replace hE := hE.heapEq e
  clear e
  refine s_val rfl (x_addi rfl rfl (by omega)) ?_
  refine s_val rfl (x_move (by conv => lhs; whnf)) ?_
  refine s_call rfl (by kernel_rfl) (Ops_no (h0 _)) rfl rfl ?_
  rintro v w17 ⟨rfl, e⟩
  replace hn := hn.heapEq e
  replace hE := hE.heapEq e
  clear e
  refine s_val rfl (x_addi rfl rfl (by omega)) ?_
  refine s_call rfl (by kernel_rfl) (Ops_no hn) rfl rfl ?_
  rintro v w18 ⟨rfl, e⟩
  replace hn := hn.heapEq e
  replace hE := hE.heapEq e
  clear e
  refine s_val rfl (x_addi rfl rfl (by omega)) ?_
  refine s_val rfl (x_move (by conv => lhs; whnf)) ?_
  refine s_call rfl (by kernel_rfl) (Pending_no (h0 _)) rfl rfl ?_
  rintro v w19 ⟨rfl, e⟩
  replace hn := hn.heapEq e
  replace hE := hE.heapEq e
  clear e
  refine s_val rfl (x_addi rfl rfl (by omega)) ?_
  refine s_call rfl (by kernel_rfl) (Pending_no hn) rfl rfl ?_
  rintro v w20 ⟨rfl, e⟩
  replace hn := hn.heapEq e
  replace hE := hE.heapEq e
  clear e
  refine s_val rfl (x_addi rfl rfl (by omega)) ?_
  refine s_val rfl (x_move (by conv => lhs; whnf)) ?_
  refine s_call rfl (by kernel_rfl) (Image_no (h0 _)) rfl rfl ?_
  rintro v w21 ⟨rfl, e⟩
  replace hn := hn.ext e
  replace hE := hE.trans e
  clear e
  refine s_val rfl (x_lenS (by kernel_rfl) rfl) ?_
  refine s_val rfl (x_addi rfl rfl (by omega)) ?_
  refine s_call rfl (by kernel_rfl) (Image_no hn) rfl rfl ?_
  rintro v w22 ⟨rfl, e⟩
  replace hn := hn.ext e
  replace hE := hE.trans e
  clear e
  refine s_val rfl (x_lenS (by kernel_rfl) rfl) ?_
  refine s_val rfl (x_addi rfl rfl (by omega)) ?_
  refine s_val rfl (x_move (by conv => lhs; whnf)) ?_
  refine s_call rfl (by kernel_rfl) (Sure_no (h0 _)) rfl rfl ?_
  rintro v w23 ⟨rfl, e⟩
  replace hn := hn.heapEq e
  replace hE := hE.heapEq e
  clear e
  refine s_val rfl (x_lenS (by kernel_rfl) rfl) ?_
  refine s_val rfl (x_addi rfl rfl (by omega)) ?_
  refine s_call rfl (by kernel_rfl) (Sure_no hn) rfl rfl ?_
  rintro v w24 ⟨rfl, e⟩
  replace hn := hn.heapEq e
  replace hE := hE.heapEq e
  clear e
  refine s_val rfl (x_lenS (by kernel_rfl) rfl) ?_
  refine s_val rfl (x_addi rfl rfl (by omega)) ?_
  refine s_val rfl (x_eql rfl rfl) ?_
  refine s_val rfl (x_pick_true rfl (by conv => lhs; whnf)) ?_
  refine s_val rfl (x_move (by conv => lhs; whnf)) ?_
  refine s_val rfl (x_move (by conv => lhs; whnf)) ?_
  refine s_call rfl (by kernel_rfl) (Clone_no (h0 _)) rfl rfl ?_
  rintro v w25 ⟨rfl, e⟩
  replace hn := hn.heapEq e
  replace hE := hE.heapEq e
  clear e
  refine s_val rfl (x_eqlPtrNil (by kernel_rfl) rfl) ?_
  refine s_val rfl (x_pick_true rfl (by conv => lhs; whnf)) ?_
  refine s_val rfl (x_move (by conv => lhs; whnf)) ?_
  refine s_call rfl (by kernel_rfl) (Clone_no hn) rfl rfl ?_
  rintro v w26 ⟨rfl, e⟩
  replace hn := hn.heapEq e
  replace hE := hE.heapEq e
  clear e
  refine s_val rfl (x_eqlPtrNil (by kernel_rfl) rfl) ?_
  refine s_val rfl (x_pick_true rfl (by conv => lhs; whnf)) ?_
  refine s_val rfl (x_assign (by conv => lhs; whnf)) ?_
  refine s_end ?_
  refine WP_ret ?_
  refine retQ_1 rfl (by conv => lhs; whnf) ?_
  exact ⟨rfl, hE⟩
end Go.Sl
