/- The disk: Sync, Crash. -/
import Derived.Test.YthalgkfafoehkaaDisk6
namespace Go.Sl
open Go.Proofs

theorem Sat.emp2 {w0 w : World} {p q : HP} (H : Sat w0 w [p, q]) : Sat w0 w [p, emp, q] := by
  have h : Sat w0 w ([p, q] ++ [emp]) := H.more ⟨Ext.refl w, fun _ => none, fun _ => none, fun _ => .inl rfl, (fun _ _ e => by cases e), (fun _ _ e => by cases e), trivial, trivial⟩
  exact h.perm (.cons _ (.swap _ _ _))
def D.sync (x : D) : Int × D := if x.take.1 = true then (0, x.take.2.settle (fun (_ : Unit) m => (m, ())) ()) else (10, x.take.2)
theorem Sync1_calls {w : World} (i m : Int) : Calls Try.prog 42 (([.int .i64 i, .int .i64 m] : List Value) ++ []).toArray w (Ret fun v w' => v = .int .i64 m ∧ core w' = core w) := by
  refine calls_of Try.func42 rfl rfl ?_
  refine WP_r rfl ?_
  refine s_val rfl (x_assign (by conv => lhs; whnf)) ?_
  refine s_end ?_
  refine WP_r rfl ?_
  refine s_val rfl (x_move (by conv => lhs; whnf)) ?_
  refine s_val rfl (x_assign (by conv => lhs; whnf)) ?_
  refine s_end ?_
  refine WP_ret ?_
  refine retQ_1 rfl (by conv => lhs; whnf) ?_
  exact ⟨rfl, rfl⟩
theorem Sync_calls {w0 w : World} {d : Nat} {x : D} {sh : List Fe} {F : HP} (hsh : RO w0 F sh) (H : Sat w0 w [DISK d x sh, F]) :
    Calls Try.prog 11 #[dp d] w (Ret fun v w' => v = .int .i64 x.sync.1 ∧ Sat w0 w' [DISK d x.sync.2 sh, F]) := by
  refine calls_of Try.func11 rfl rfl ?_
  refine WP_r rfl ?_
  refine s_val rfl (x_assign (by conv => lhs; whnf)) ?_
  refine s_end ?_
  refine WP_seq ?_
  refine WP_block ?_
  refine WP_r rfl ?_
  refine s_val rfl (x_move (by conv => lhs; whnf)) ?_
  refine s_call rfl (by kernel_rfl) (is_calls (H.holdD (i := 0) rfl (j := 1) rfl hsh)) rfl rfl ?_
  rintro v w1 ⟨rfl, e1⟩
  replace H := H.heapEq e1
  clear e1
  refine s_val rfl (x_not rfl) ?_
  refine s_val rfl (x_assign (by conv => lhs; whnf)) ?_
  refine s_end ?_
  refine WP_cond_false rfl ?_
  refine WP_r rfl ?_
  refine s_val rfl (x_move (by conv => lhs; whnf)) ?_
  refine s_call rfl (by kernel_rfl) (take_calls H) rfl rfl ?_
  clear H
  rintro v w2 ⟨rfl, H⟩
  refine s_val rfl (x_not rfl) ?_
  refine s_val rfl (x_assign (by conv => lhs; whnf)) ?_
  refine s_end ?_
  refine WP_cond rfl (fun h1 => ?_) (fun h1 => ?_)
  · skip
    refine WP_r rfl ?_
    refine s_val rfl (x_assign (by conv => lhs; whnf)) ?_
    refine s_end ?_
    refine WP_ret ?_
    refine blockQ_r ?_
    refine thenQ_r ?_
    refine retQ_1 rfl (by conv => lhs; whnf) ?_
    have ht : ¬ x.take.1 = true := by simpa using h1
    unfold D.sync; rw [if_neg ht]
    exact ⟨rfl, H⟩
  · skip
    refine WP_skip ?_
    refine blockQ_n ?_
    refine thenQ_n ?_
    refine WP_r rfl ?_
    refine s_val rfl (x_move (by conv => lhs; whnf)) ?_
    refine s_call rfl (by kernel_rfl) (settle_calls (step := fun (_ : Unit) m => (m, ())) (G := fun _ => emp) (C := fun _ _ => True) (g := 42) (caps := #[]) (fun _ _ => Nat.le_refl _) (by kernel_rfl) hsh (fun _ _ _ _ => trivial) (fun w L k s i m _ _ _ H => Calls.mono (Sync1_calls i m) (Ret.mono fun v w' ⟨e1, e2⟩ => ⟨e1, H.heapEq e2⟩)) (s := ()) trivial H.emp2) rfl rfl ?_
    rintro v w3 ⟨rfl, H3⟩
    refine s_end ?_
    refine WP_r rfl ?_
    refine s_val rfl (x_assign (by conv => lhs; whnf)) ?_
    refine s_end ?_
    refine WP_ret ?_
    refine retQ_1 rfl (by conv => lhs; whnf) ?_
    have ht : x.take.1 = true := by simpa using h1
    unfold D.sync; rw [if_pos ht]
    exact ⟨rfl, H3.drop 1⟩
/-- What a pick counts for. -/
def pickOf (picks : List Int) (s m : Nat) : Nat := if picks.length ≤ s then 0 else ((picks.getD s 0) % 18446744073709551616).toNat % (m + 1)
def D.crash (x : D) (picks : List Int) : D := { x.settle (fun (s : Nat) m => (pickOf picks s m, s + 1)) 0 with off := false, left := -1 }
theorem pickOf_le (picks : List Int) (s m : Nat) : pickOf picks s m ≤ m := by
  unfold pickOf
  split
  · omega
  · have := Nat.mod_lt ((picks.getD s 0) % 18446744073709551616).toNat (show 0 < m + 1 by omega)
    omega
theorem Crash1_calls {w0 w : World} {jb pb : Nat} {picks : List Int} {pa : Option Addr} {pn pc k m : Nat} {i : Int} {F0 L : HP} (hk : k < 4096) (hm : m ≤ 4611686018427387904) (hR : ∀ w', Sat w0 w' [F0] → Rd w' pa pn pc 1 (picks.map intF))
    (H : Sat w0 w [blk jb (.cells #[.int .i64 ((k : Int) - 1)] 3 (0, 0)), stars [blk pb (.cells #[.slice pa pn pc] 31 (0, 0)), F0], L]) :
    Calls Try.prog 46 (([.int .i64 i, .int .i64 m] : List Value) ++ ([.pointer (some ⟨jb, 0, none⟩), .pointer (some ⟨pb, 0, none⟩)] : List Value)).toArray w
      (Ret fun v w' => v = .int .i64 (pickOf picks k m : Nat) ∧ Sat w0 w' [blk jb (.cells #[.int .i64 (((k + 1 : Nat) : Int) - 1)] 3 (0, 0)), stars [blk pb (.cells #[.slice pa pn pc] 31 (0, 0)), F0], L]) := by
  replace H : Sat w0 w ([blk pb (.cells #[.slice pa pn pc] 31 (0, 0)), F0] ++ [blk jb (.cells #[.int .i64 ((k : Int) - 1)] 3 (0, 0)), L]) := (H.perm (.swap _ _ _)).join
  replace H : Sat w0 w [blk jb (.cells #[.int .i64 ((k : Int) - 1)] 3 (0, 0)), blk pb (.cells #[.slice pa pn pc] 31 (0, 0)), F0, L] := H.perm ((List.perm_append_comm (l₁ := [blk pb (.cells #[.slice pa pn pc] 31 (0, 0)), F0]) (l₂ := [blk jb (.cells #[.int .i64 ((k : Int) - 1)] 3 (0, 0))])).append_right [L])
  suffices hh : Calls Try.prog 46 (([.int .i64 i, .int .i64 m] : List Value) ++ ([.pointer (some ⟨jb, 0, none⟩), .pointer (some ⟨pb, 0, none⟩)] : List Value)).toArray w
      (Ret fun v w' => v = .int .i64 (pickOf picks k m : Nat) ∧ Sat w0 w' [blk jb (.cells #[.int .i64 ((k : Int) - 1 + 1)] 3 (0, 0)), blk pb (.cells #[.slice pa pn pc] 31 (0, 0)), F0, L]) by
    refine Calls.mono hh (Ret.mono ?_)
    rintro v w' ⟨e, H⟩
    refine ⟨e, ?_⟩
    have e2 : ((k + 1 : Nat) : Int) - 1 = (k : Int) - 1 + 1 := by omega
    rw [e2]
    have H5 : Sat w0 w' ([blk pb (.cells #[.slice pa pn pc] 31 (0, 0)), F0] ++ [blk jb (.cells #[.int .i64 ((k : Int) - 1 + 1)] 3 (0, 0)), L]) :=
      H.perm ((List.perm_append_comm (l₁ := [blk jb (.cells #[.int .i64 ((k : Int) - 1 + 1)] 3 (0, 0))]) (l₂ := [blk pb (.cells #[.slice pa pn pc] 31 (0, 0)), F0])).append_right [L])
    exact H5.part.perm (.swap _ _ _)
  have HR : Rd w pa pn pc 1 (picks.map intF) := hR w (((H.drop 0).drop 0).drop 1)
  have hpn : pn = picks.length := by have := HR.1; simp at this; omega
  refine calls_of Try.func46 rfl rfl ?_
  refine WP_r rfl ?_
  refine s_val rfl (x_assign (by conv => lhs; whnf)) ?_
  refine s_end ?_
  refine WP_r rfl ?_
  refine s_val rfl (x_load (by kernel_rfl) rfl (by first | assumption | exact H.cell (i := 0) rfl rfl | exact H.cell (i := 1) rfl rfl | exact H.cell (i := 2) rfl rfl | exact H.cell (i := 3) rfl rfl | exact H.cell (i := 4) rfl rfl | exact H.cell (i := 5) rfl rfl)) ?_
  refine s_val rfl (x_addi rfl rfl (by omega)) ?_
  refine s_store rfl (by kernel_rfl) rfl (by conv => lhs; whnf) rfl H (i := 0) rfl rfl ?_
  clear H; intro _ H
  simp only [List.set_cons_zero, List.set_cons_succ, List.setIfInBounds_toArray] at H
  refine s_end ?_
  refine WP_seq ?_
  have HR2 := hR _ (((H.drop 0).drop 0).drop 1)
  refine WP_r rfl ?_
  refine s_val rfl (x_load (by kernel_rfl) rfl (by first | assumption | exact H.cell (i := 0) rfl rfl | exact H.cell (i := 1) rfl rfl | exact H.cell (i := 2) rfl rfl | exact H.cell (i := 3) rfl rfl | exact H.cell (i := 4) rfl rfl | exact H.cell (i := 5) rfl rfl)) ?_
  refine s_val rfl (x_load (by kernel_rfl) rfl (by first | assumption | exact H.cell (i := 0) rfl rfl | exact H.cell (i := 1) rfl rfl | exact H.cell (i := 2) rfl rfl | exact H.cell (i := 3) rfl rfl | exact H.cell (i := 4) rfl rfl | exact H.cell (i := 5) rfl rfl)) ?_
  refine s_val rfl (x_lenS (by kernel_rfl) rfl) ?_
  refine s_val rfl (x_geq rfl rfl) ?_
  refine s_end ?_
  refine WP_cond_dec rfl (fun h1 => ?_) (fun h1 => ?_)
  · skip
    refine WP_r rfl ?_
    refine s_val rfl (x_assign (by conv => lhs; whnf)) ?_
    refine s_end ?_
    refine WP_ret ?_
    refine thenQ_r ?_
    refine retQ_1 rfl (by conv => lhs; whnf) ?_
    refine ⟨?_, H⟩
    unfold pickOf
    rw [if_pos (by omega)]; rfl
  · skip
    refine WP_skip ?_
    refine thenQ_n ?_
    have hkl : k < picks.length := by omega
    have hel : ∀ j, j = k → (picks.map intF)[j]? = some (.int .i64 picks[k]) := fun j hj => by
      subst hj; rw [List.getElem?_map, List.getElem?_eq_getElem hkl]; rfl
    refine WP_r rfl ?_
    refine s_val rfl (x_load (by kernel_rfl) rfl (by first | assumption | exact H.cell (i := 0) rfl rfl | exact H.cell (i := 1) rfl rfl | exact H.cell (i := 2) rfl rfl | exact H.cell (i := 3) rfl rfl | exact H.cell (i := 4) rfl rfl | exact H.cell (i := 5) rfl rfl)) ?_
    refine s_val rfl (x_load (by kernel_rfl) rfl (by first | assumption | exact H.cell (i := 0) rfl rfl | exact H.cell (i := 1) rfl rfl | exact H.cell (i := 2) rfl rfl | exact H.cell (i := 3) rfl rfl | exact H.cell (i := 4) rfl rfl | exact H.cell (i := 5) rfl rfl)) ?_
    refine s_val rfl (x_index (show SlT Try.prog 31 3 1 8 from ⟨by kernel_rfl, by kernel_rfl⟩) rfl rfl (by omega) (by omega) HR2) ?_
    refine s_val rfl (x_loadR (by kernel_rfl) rfl HR2 (hel _ (by omega))) ?_
    refine s_val rfl (x_convI (q := .i64) (k' := .u64) (by kernel_rfl) (by kernel_rfl) rfl) ?_
    refine s_val rfl (x_move (by conv => lhs; whnf)) ?_
    refine s_val rfl (x_addi rfl rfl (by omega)) ?_
    refine s_val rfl (x_convI (q := .i64) (k' := .u64) (by kernel_rfl) (by kernel_rfl) rfl) ?_
    refine s_val rfl (x_remi rfl rfl ⟨by rw [IntKind.wrap_u64]; omega, by rw [IntKind.wrap_u64]; omega⟩) ?_
    refine s_val rfl (x_convI (q := .u64) (k' := .i64) (by kernel_rfl) (by kernel_rfl) rfl) ?_
    refine s_val rfl (x_assign (by conv => lhs; whnf)) ?_
    refine s_end ?_
    refine WP_ret ?_
    refine retQ_1 rfl (by conv => lhs; whnf) ?_
    refine ⟨?_, H⟩
    have e1 : IntKind.u64.wrap ((m : Int) + 1) = ((m + 1 : Nat) : Int) := by rw [IntKind.wrap_u64]; omega
    have e2 : IntKind.u64.wrap picks[k] = (((picks[k] % 18446744073709551616).toNat : Nat) : Int) := by rw [IntKind.wrap_u64]; omega
    have e3 : picks.getD k 0 = picks[k] := by simp [List.getD_eq_getElem?_getD, hkl]
    have e4 := Nat.mod_lt (picks[k] % 18446744073709551616).toNat (show 0 < m + 1 by omega)
    unfold pickOf
    rw [if_neg (by omega), e1, e2, e3, ← Int.natCast_emod, IntWalk.i64_in _ (by omega)]
theorem Sat.tail {w0 w : World} {A B : List HP} (H : Sat w0 w (A ++ B)) : Sat w0 w (A ++ [stars B]) := ((H.perm List.perm_append_comm).part).perm (List.perm_append_comm (l₁ := [stars B]) (l₂ := A))
theorem Sat.untail {w0 w : World} {A B : List HP} (H : Sat w0 w (A ++ [stars B])) : Sat w0 w (A ++ B) := ((H.perm (List.perm_append_comm (l₁ := A) (l₂ := [stars B]))).join).perm List.perm_append_comm
theorem Crash_calls {w0 w : World} {d : Nat} {x : D} {sh : List Fe} {F : HP} (hsh : RO w0 F sh) {picks : List Int} {pa : Option Addr} {pn pc : Nat} (hR : ∀ w', Sat w0 w' [F] → Rd w' pa pn pc 1 (picks.map intF)) (H : Sat w0 w [DISK d x sh, F]) :
    Calls Try.prog 21 #[dp d, .slice pa pn pc] w (Ret fun v w' => v = .int .i64 0 ∧ Sat w0 w' [DISK d (x.crash picks) sh, F]) := by
  refine calls_of Try.func21 rfl rfl ?_
  refine WP_r rfl ?_
  refine s_box rfl (v := .slice pa pn pc) (by conv => lhs; whnf) H ?_
  intro pb w1 H1
  replace H : Sat w0 w1 [DISK d x sh, F, blk pb (.cells #[.slice pa pn pc] 31 (0, 0))] := H1
  clear H1
  refine s_val rfl (x_assign (by conv => lhs; whnf)) ?_
  refine s_end ?_
  refine WP_seq ?_
  refine WP_r rfl ?_
  refine s_val rfl (x_move (by conv => lhs; whnf)) ?_
  refine s_call rfl (by kernel_rfl) (is_calls (H.holdD (i := 0) rfl (j := 1) rfl hsh)) rfl rfl ?_
  rintro v w2 ⟨rfl, e1⟩
  replace H := H.heapEq e1
  clear e1
  refine s_val rfl (x_not rfl) ?_
  refine s_end ?_
  refine WP_cond_false rfl ?_
  refine WP_skip ?_
  refine thenQ_n ?_
  refine WP_r rfl ?_
  refine s_alloc rfl (show ZeroT Try.prog 3 (.int .i64 0) by unfold ZeroT; kernel_rfl) H ?_
  intro jb w3 H3
  replace H : Sat w0 w3 [DISK d x sh, F, blk pb (.cells #[.slice pa pn pc] 31 (0, 0)), blk jb (.cells #[.int .i64 0] 3 (0, 0))] := H3
  clear H3
  refine s_store rfl (by kernel_rfl) rfl (by conv => lhs; whnf) rfl H (i := 3) rfl rfl ?_
  clear H; intro _ H
  simp only [List.set_cons_zero, List.set_cons_succ, List.setIfInBounds_toArray] at H
  refine s_end ?_
  have e0 : ((-1 : Int)) = ((0 : Nat) : Int) - 1 := by decide
  rw [e0] at H
  have H4 : Sat w0 _ ([DISK d x sh] ++ [blk jb (.cells #[.int .i64 (((0 : Nat) : Int) - 1)] 3 (0, 0)), blk pb (.cells #[.slice pa pn pc] 31 (0, 0)), F]) := H.perm (List.Perm.append_left [DISK d x sh] (List.reverse_perm [blk jb (.cells #[.int .i64 (((0 : Nat) : Int) - 1)] 3 (0, 0)), blk pb (.cells #[.slice pa pn pc] 31 (0, 0)), F]))
  have H5 : Sat w0 _ ([DISK d x sh, blk jb (.cells #[.int .i64 (((0 : Nat) : Int) - 1)] 3 (0, 0))] ++ [blk pb (.cells #[.slice pa pn pc] 31 (0, 0)), F]) := H4
  replace H := H5.tail
  clear H4 H5
  refine WP_r rfl ?_
  refine s_val rfl (x_move (by conv => lhs; whnf)) ?_
  refine s_val rfl (x_makeFuncA (l1 := []) (l2 := [_, _]) rfl rfl) ?_
  refine s_call rfl (by kernel_rfl) (settle_calls (σ := Nat) (step := fun (s : Nat) m => (pickOf picks s m, s + 1)) (G := fun s : Nat => blk jb (.cells #[.int .i64 ((s : Int) - 1)] 3 (0, 0))) (C := fun k s => s = k) (g := 46) (caps := #[.pointer (some ⟨jb, 0, none⟩), .pointer (some ⟨pb, 0, none⟩)]) (fun s m => pickOf_le picks s m) (by kernel_rfl) (hsh.inn (i := 1) rfl) (fun k s m h => by show s + 1 = k + 1; omega) (fun w L k s i m h hk hm H => by subst h; exact Crash1_calls hk hm hR H) (s := 0) rfl H) rfl rfl ?_
  clear H
  rintro v w5 ⟨rfl, H⟩
  refine s_end ?_
  have hpos := pickOf_le picks
  obtain ⟨a, cap, fb, mb, mm, ff, fo, hok, hM, hF, hfo, H⟩ := DISK.openL H
  simp only [dlist, List.cons_append, List.nil_append] at H
  refine WP_r rfl ?_
  refine s_val rfl (x_move (by conv => lhs; whnf)) ?_
  refine s_val rfl (x_move (by conv => lhs; whnf)) ?_
  refine s_val rfl (x_nilCheck rfl) ?_
  refine s_val rfl (x_field (off := 4) (by kernel_rfl) rfl) ?_
  refine s_store rfl (by kernel_rfl) rfl (by conv => lhs; whnf) rfl H (i := 0) rfl rfl ?_
  clear H; intro _ H
  simp only [List.set_cons_zero, List.set_cons_succ, List.setIfInBounds_toArray] at H
  refine s_val rfl (x_nilCheck rfl) ?_
  refine s_val rfl (x_field (off := 3) (by kernel_rfl) rfl) ?_
  refine s_store rfl (by kernel_rfl) rfl (by conv => lhs; whnf) rfl H (i := 0) rfl rfl ?_
  clear H; intro _ H
  simp only [List.set_cons_zero, List.set_cons_succ, List.setIfInBounds_toArray] at H
  refine s_end ?_
  refine WP_r rfl ?_
  refine s_val rfl (x_assign (by conv => lhs; whnf)) ?_
  refine s_end ?_
  refine WP_ret ?_
  refine retQ_1 rfl (by conv => lhs; whnf) ?_
  refine ⟨rfl, ?_⟩
  have H6 := (H.drop 5).untail (A := [_, _, _, _, _])
  have H7 := H6.drop 5
  have hok' : (x.crash picks).Ok := ⟨hok.pos, hok.big, hok.each, hok.sect, by show -1 ≤ (-1 : Int) ∧ (-1 : Int) ≤ _; decide, hok.taken⟩
  exact DISK.closeL hok' (x := x.crash picks) hM hF hfo (a := a) (cap := cap) (fb := fb) (mb := mb) H7
end Go.Sl
