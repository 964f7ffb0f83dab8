/- The laws' own small functions: Among, full, SameBytes, Bytes, Ints. -/
import Derived.Test.YthalgkfafoehkaaDisk11
namespace Go.Sl
open Go.Proofs

def among (a n : Int) : Int := (a % 18446744073709551616) % n
theorem among_bounds (a n : Int) (h : 1 ≤ n) : 0 ≤ among a n ∧ among a n < n := ⟨Int.emod_nonneg _ (by omega), Int.emod_lt_of_pos _ (by omega)⟩
theorem Among_calls {w : World} (a n : Int) (h : 1 ≤ n) (h2 : n ≤ 9223372036854775807) : Calls Try.prog 8 #[.int .i64 a, .int .i64 n] w (Ret fun v w' => v = .int .i64 (among a n) ∧ w' = w) := by
  have hb := among_bounds a n h
  have e1 : IntKind.u64.wrap n = n := IntWalk.u64_in _ ⟨by omega, by omega⟩
  have e2 : IntKind.u64.wrap a = a % 18446744073709551616 := IntKind.wrap_u64 a
  refine calls_of Try.func8 rfl rfl ?_
  refine WP_r rfl ?_
  refine s_val rfl (x_assign (by conv => lhs; whnf)) ?_
  refine s_end ?_
  refine WP_r rfl ?_
  refine s_val rfl (x_move (by conv => lhs; whnf)) ?_
  refine s_val rfl (x_convI (q := .i64) (k' := .u64) (by kernel_rfl) (by kernel_rfl) rfl) ?_
  refine s_val rfl (x_move (by conv => lhs; whnf)) ?_
  refine s_val rfl (x_convI (q := .i64) (k' := .u64) (by kernel_rfl) (by kernel_rfl) rfl) ?_
  refine s_val rfl (x_remi rfl rfl ⟨by rw [e2]; omega, by rw [e1]; omega⟩) ?_
  refine s_val rfl (x_convI (q := .u64) (k' := .i64) (by kernel_rfl) (by kernel_rfl) rfl) ?_
  refine s_val rfl (x_assign (by conv => lhs; whnf)) ?_
  refine s_end ?_
  refine WP_ret ?_
  refine retQ_1 rfl (by conv => lhs; whnf) ?_
  exact ⟨by rw [e1, e2]; show Value.int .i64 (IntKind.i64.wrap (among a n)) = _; rw [IntWalk.i64_in _ (by omega)], rfl⟩
def fullS (c : UInt8) : Sect := List.replicate 256 c
theorem fullS_len (c : UInt8) : (fullS c).length = 256 := List.length_replicate ..
def fillS (c : UInt8) (k : Nat) : List Value := List.replicate k (by1 c) ++ List.replicate (256 - k) (.int .u8 0)
theorem fillS_len (c : UInt8) (k : Nat) (h : k ≤ 256) : (fillS c k).length = 256 := by unfold fillS; rw [List.length_append, List.length_replicate, List.length_replicate]; omega
theorem fillS_step (c : UInt8) (k : Nat) (h : k < 256) : (fillS c k).set k (by1 c) = fillS c (k + 1) := by
  unfold fillS
  rw [List.set_append_right _ _ (by rw [List.length_replicate]; omega), List.length_replicate, Nat.sub_self]
  obtain ⟨m, hm⟩ : ∃ m, 256 - k = m + 1 := ⟨255 - k, by omega⟩
  rw [hm, List.replicate_succ, List.set_cons_zero, show 256 - (k + 1) = m by omega, List.replicate_succ', List.append_assoc]; rfl
theorem full_calls {w : World} (c : UInt8) : Calls Try.prog 14 #[by1 c] w (Ret fun v w' => ∃ a, v = .slice a 256 256 ∧ Sat w w' [slo 5 1 a 256 256 (bys (fullS c))]) := by
  have H := Sat.nil (Ext.refl w)
  refine calls_of Try.func14 rfl rfl ?_
  refine WP_r rfl ?_
  refine s_val rfl (x_assign (by conv => lhs; whnf)) ?_
  refine s_end ?_
  refine WP_r rfl ?_
  refine s_makeSlice (n := 256) (c := 256) rfl (show SlT Try.prog 37 5 1 1 from ⟨by kernel_rfl, by kernel_rfl⟩) (show ZeroT Try.prog 5 (.int .u8 0) by unfold ZeroT; kernel_rfl) rfl rfl rfl (by omega) (by omega) (by omega) (by omega) H ?_
  intro b w1 H1
  clear H
  have H := H1.toSlo (i := 0) (n := 256) (cap := 256) (sz := 1) (cs := fillS c 0) rfl (Nat.le_refl _) (by rw [List.size_toArray, List.length_replicate]; rfl) (by rw [List.take_of_length_le (by rw [List.length_replicate]; decide)]; rfl)
  clear H1
  simp only [List.nil_append, List.set_cons_zero] at H
  refine s_val rfl (x_assign (by conv => lhs; whnf)) ?_
  refine s_end ?_
  refine WP_seq ?_
  refine WP_r rfl ?_
  refine s_val rfl (x_assign (by conv => lhs; whnf)) ?_
  refine s_end ?_
  refine WP_block ?_
  refine WP_loopA (α := Nat) (fun k => [(0, by1 c), (3, .slice (some ⟨b, 0, none⟩) 256 256), (4, .int .i64 k)]) (fun k w' => k ≤ 256 ∧ Sat w w' [slo 5 1 (some ⟨b, 0, none⟩) 256 256 (fillS c k)]) (fun k => 256 - k) 0 ⟨rfl, rfl, rfl, trivial⟩ ⟨by omega, H⟩ ?_
  clear H
  intro k ρ w4 ⟨hk, H⟩
  refine WP_seq ?_
  refine WP_r rfl ?_
  refine s_val rfl (x_move (by conv => lhs; whnf)) ?_
  refine s_val rfl (x_move (by conv => lhs; whnf)) ?_
  refine s_val rfl (x_lenS (by kernel_rfl) rfl) ?_
  refine s_val rfl (x_lss rfl rfl) ?_
  refine s_end ?_
  refine WP_cond_dec rfl (fun h1 => ?_) (fun h1 => ?_)
  · skip
    refine WP_skip ?_
    refine thenQ_n ?_
    refine WP_seq ?_
    refine WP_block ?_
    have hk2 : k < 256 := by omega
    have HR := H.rd (i := 0) rfl
    refine WP_region rfl ?_
    refine s_val rfl (x_move (by conv => lhs; whnf)) ?_
    refine s_val rfl (x_move (by conv => lhs; whnf)) ?_
    refine s_val rfl (x_move (by conv => lhs; whnf)) ?_
    refine s_val rfl (x_index (show SlT Try.prog 37 5 1 1 from ⟨by kernel_rfl, by kernel_rfl⟩) rfl rfl (by omega) (by omega) HR) ?_
    refine s_storeO rfl (by kernel_rfl) rfl (by conv => lhs; whnf) rfl H (i := 0) rfl (by rw [fillS_len _ _ hk]; omega) ?_
    clear H HR
    intro w5 H
    simp only [List.set_cons_zero] at H
    rw [show ((k : Int)).toNat * 1 = k by omega, show (Value.int .u8 c.toNat) = by1 c from rfl, fillS_step c k hk2] at H
    refine s_end ?_
    refine blockQ_n ?_
    refine thenQ_n ?_
    refine WP_region rfl ?_
    refine s_val rfl (x_move (by conv => lhs; whnf)) ?_
    refine s_val rfl (x_addi rfl rfl (by omega)) ?_
    refine s_val rfl (x_assign (by conv => lhs; whnf)) ?_
    refine s_end ?_
    refine loopQ_A (k + 1) (by omega) ⟨rfl, rfl, rfl, trivial⟩ ⟨by omega, H⟩
  · skip
    refine WP_exit ?_
    refine thenQ_e ?_
    refine loopQ_e ?_
    refine blockQ_hit ?_
    refine thenQ_n ?_
    refine WP_r rfl ?_
    refine s_val rfl (x_move (by conv => lhs; whnf)) ?_
    refine s_val rfl (x_assign (by conv => lhs; whnf)) ?_
    refine s_end ?_
    refine WP_ret ?_
    refine retQ_1 rfl (by conv => lhs; whnf) ?_
    have e : k = 256 := by omega
    subst e
    refine ⟨_, rfl, ?_⟩
    have e2 : fillS c 256 = bys (fullS c) := by
      unfold fillS bys fullS
      rw [List.map_replicate, Nat.sub_self, List.replicate_zero, List.append_nil]
    rw [e2] at H
    exact H
theorem rd_get {w : World} {a : Option Addr} {n cap : Nat} {S : List UInt8} (hr : Rd w a n cap 1 (bys S)) (k : Nat) (hk : k < n) : ∃ b, S[k]? = some b ∧ (bys S)[k]? = some (by1 b) := by
  have : S.length = n := by have := hr.1; rw [bys_length] at this; omega
  refine ⟨S[k]'(by omega), List.getElem?_eq_getElem _, ?_⟩
  unfold bys
  rw [List.getElem?_map, List.getElem?_eq_getElem (by omega)]; rfl
theorem SameBytes_calls {w : World} {a a' : Option Addr} {n cap n' cap' : Nat} {S T : List UInt8} (hr : Rd w a n cap 1 (bys S)) (hr' : Rd w a' n' cap' 1 (bys T)) (hb : n ≤ 4611686018427387904) :
    Calls Try.prog 17 #[.slice a n cap, .slice a' n' cap'] w (Ret fun v w' => v = .bool (decide (S = T)) ∧ core w' = core w) := by
  have hn : S.length = n := by have := hr.1; rw [bys_length] at this; omega
  have hn' : T.length = n' := by have := hr'.1; rw [bys_length] at this; omega
  refine calls_of Try.func17 rfl rfl ?_
  refine WP_r rfl ?_
  refine s_val rfl (x_assign (by conv => lhs; whnf)) ?_
  refine s_end ?_
  refine WP_seq ?_
  refine WP_r rfl ?_
  refine s_val rfl (x_move (by conv => lhs; whnf)) ?_
  refine s_val rfl (x_lenS (by kernel_rfl) rfl) ?_
  refine s_val rfl (x_move (by conv => lhs; whnf)) ?_
  refine s_val rfl (x_lenS (by kernel_rfl) rfl) ?_
  refine s_val rfl (x_neq rfl rfl) ?_
  refine s_end ?_
  refine WP_cond_dec rfl (fun h1 => ?_) (fun h1 => ?_)
  · skip
    refine WP_r rfl ?_
    refine s_val rfl (x_assign (by conv => lhs; whnf)) ?_
    refine s_end ?_
    refine WP_ret ?_
    refine thenQ_r ?_
    refine retQ_1 rfl (by conv => lhs; whnf) ?_
    exact ⟨by rw [decide_eq_false]; intro e; rw [e] at hn; omega, rfl⟩
  · skip
    refine WP_skip ?_
    refine thenQ_n ?_
    refine WP_seq ?_
    refine WP_r rfl ?_
    refine s_val rfl (x_assign (by conv => lhs; whnf)) ?_
    refine s_end ?_
    refine WP_block ?_
    have hnn : n' = n := by omega
    refine WP_loopA (α := Nat) (fun k => [(0, .slice a n cap), (1, .slice a' n' cap'), (5, .int .i64 k)]) (fun k w' => k ≤ n ∧ (∀ j, j < k → S[j]? = T[j]?) ∧ core w' = core w) (fun k => n - k) 0 ⟨rfl, rfl, rfl, trivial⟩ ⟨Nat.zero_le _, fun j hj => absurd hj (Nat.not_lt_zero j), rfl⟩ ?_
    intro k ρ w4 ⟨hk, hS, e4⟩
    refine WP_seq ?_
    refine WP_r rfl ?_
    refine s_val rfl (x_move (by conv => lhs; whnf)) ?_
    refine s_val rfl (x_move (by conv => lhs; whnf)) ?_
    refine s_val rfl (x_lenS (by kernel_rfl) rfl) ?_
    refine s_val rfl (x_lss rfl rfl) ?_
    refine s_end ?_
    refine WP_cond_dec rfl (fun h2 => ?_) (fun h2 => ?_)
    · skip
      refine WP_skip ?_
      refine thenQ_n ?_
      refine WP_seq ?_
      refine WP_block ?_
      have hk2 : k < n := by omega
      obtain ⟨b, hb1, hb2⟩ := rd_get hr k hk2
      obtain ⟨b', hb1', hb2'⟩ := rd_get hr' k (by omega)
      have hel : ∀ j, j = k → (bys S)[j]? = some (by1 b) := fun j h => by rw [h]; exact hb2
      have hel' : ∀ j, j = k → (bys T)[j]? = some (by1 b') := fun j h => by rw [h]; exact hb2'
      refine WP_rd (fun w' => core w' = core w) (.float 0 (.float 1 (.float 2 (.float 3 (.float 4 (.float 5 (.float 6 (.float 7 (.float 8 .done))))))))) (by kernel_rfl) (by kernel_rfl) e4 ?_
      refine r_val rfl rfl (fun w hI => x_move (by conv => lhs; whnf)) ?_
      refine r_val rfl rfl (fun w hI => x_move (by conv => lhs; whnf)) ?_
      refine r_val rfl rfl (fun w hI => x_index (show SlT Try.prog 37 5 1 1 from ⟨by kernel_rfl, by kernel_rfl⟩) rfl rfl (by omega) (by omega) (hr.heapEq hI)) ?_
      refine r_val rfl rfl (fun w hI => x_loadR (by kernel_rfl) rfl (hr.heapEq hI) (hel _ (by omega))) ?_
      refine r_val rfl rfl (fun w hI => x_move (by conv => lhs; whnf)) ?_
      refine r_val rfl rfl (fun w hI => x_move (by conv => lhs; whnf)) ?_
      refine r_val rfl rfl (fun w hI => x_index (show SlT Try.prog 37 5 1 1 from ⟨by kernel_rfl, by kernel_rfl⟩) rfl rfl (by omega) (by omega) (hr'.heapEq hI)) ?_
      refine r_val rfl rfl (fun w hI => x_loadR (by kernel_rfl) rfl (hr'.heapEq hI) (hel' _ (by omega))) ?_
      refine r_val rfl rfl (fun w hI => x_neq (a := (b.toNat : Int)) (b := (b'.toNat : Int)) rfl rfl) ?_
      refine r_done ?_
      refine WP_cond_dec rfl (fun h3 => ?_) (fun h3 => ?_)
      · skip
        refine WP_r rfl ?_
        refine s_val rfl (x_assign (by conv => lhs; whnf)) ?_
        refine s_end ?_
        refine WP_ret ?_
        refine blockQ_r ?_
        refine thenQ_r ?_
        refine loopQ_r ?_
        refine blockQ_r ?_
        refine thenQ_r ?_
        refine retQ_1 rfl (by conv => lhs; whnf) ?_
        refine ⟨?_, e4⟩
        rw [decide_eq_false]
        intro e
        rw [e, hb1'] at hb1
        injection hb1 with hb1
        exact h3 (by rw [hb1])
      · skip
        refine WP_skip ?_
        refine blockQ_n ?_
        refine thenQ_n ?_
        refine WP_region rfl ?_
        refine s_val rfl (x_move (by conv => lhs; whnf)) ?_
        refine s_val rfl (x_addi rfl rfl (by omega)) ?_
        refine s_val rfl (x_assign (by conv => lhs; whnf)) ?_
        refine s_end ?_
        refine loopQ_A (k + 1) (by omega) ⟨rfl, rfl, rfl, trivial⟩ ⟨by omega, fun j hj => ?_, e4⟩
        by_cases hjk : j = k
        · rw [hjk, hb1, hb1']
          have h5 : (b.toNat : Int) = b'.toNat := Classical.byContradiction h3
          rw [UInt8.toNat_inj.1 (Int.ofNat_inj.1 h5)]
        · exact hS j (by omega)
    · skip
      refine WP_exit ?_
      refine thenQ_e ?_
      refine loopQ_e ?_
      refine blockQ_hit ?_
      refine thenQ_n ?_
      refine WP_r rfl ?_
      refine s_val rfl (x_assign (by conv => lhs; whnf)) ?_
      refine s_end ?_
      refine WP_ret ?_
      refine retQ_1 rfl (by conv => lhs; whnf) ?_
      have e : k = n := by omega
      refine ⟨?_, e4⟩
      rw [decide_eq_true]
      apply List.ext_getElem?
      intro j
      by_cases hj : j < n
      · exact hS j (by omega)
      · rw [List.getElem?_eq_none (by omega), List.getElem?_eq_none (by omega)]
theorem zInt : ∃ z, ZeroT Try.prog 3 z ∧ z.cells.size = 1 := ⟨.int .i64 0, by unfold ZeroT; kernel_rfl, rfl⟩
theorem Bytes_calls {w : World} {a : Option Addr} {n cap : Nat} {bs : List UInt8} (HR : Rd w a n cap 1 (bys bs)) (hn : n ≤ 140737488355328) :
    Calls Try.prog 25 #[.slice a n cap] w (Ret fun v w' => ∃ a' cap', v = .slice a' n cap' ∧ Sat w w' [slo 5 1 a' n cap' (bys bs)]) := by
  refine calls_of Try.func25 rfl rfl ?_
  refine WP_r rfl ?_
  refine s_val rfl (x_assign (by conv => lhs; whnf)) ?_
  refine s_end ?_
  refine WP_r rfl ?_
  refine s_buildSlice (vs := []) rfl (show SlT Try.prog 37 5 1 1 from ⟨by kernel_rfl, by kernel_rfl⟩) zByte rfl rfl (by simp) (by decide) (Sat.nil (Ext.refl w)) ?_
  intro b w1 H
  simp only [List.nil_append, List.flatMap_nil] at H
  refine s_val rfl (x_move (by conv => lhs; whnf)) ?_
  refine s_append rfl (show SlT Try.prog 37 5 1 1 from ⟨by kernel_rfl, by kernel_rfl⟩) zByte ⟨_, (show SlT Try.prog 37 5 1 1 from ⟨by kernel_rfl, by kernel_rfl⟩).und⟩ rfl rfl H (i := 0) rfl (HR.ext H.ext) (bys_oneCell _) (by omega) (by omega) ?_
  intro a' cap' w2 H2
  simp only [List.set_cons_zero, List.nil_append, Nat.zero_add] at H2
  rw [Nat.zero_add]
  refine s_val rfl (x_assign (by conv => lhs; whnf)) ?_
  refine s_end ?_
  refine WP_ret ?_
  refine retQ_1 rfl (by conv => lhs; whnf) ?_
  exact ⟨a', cap', rfl, H2⟩
theorem Ints_calls {w : World} {a : Option Addr} {n cap : Nat} {l : List Int} (HR : Rd w a n cap 1 (l.map intF)) (hn : n ≤ 17592186044416) :
    Calls Try.prog 31 #[.slice a n cap] w (Ret fun v w' => ∃ a' cap', v = .slice a' n cap' ∧ Sat w w' [slo 3 1 a' n cap' (l.map intF)]) := by
  refine calls_of Try.func31 rfl rfl ?_
  refine WP_r rfl ?_
  refine s_val rfl (x_assign (by conv => lhs; whnf)) ?_
  refine s_end ?_
  refine WP_r rfl ?_
  refine s_buildSlice (vs := []) rfl (show SlT Try.prog 31 3 1 8 from ⟨by kernel_rfl, by kernel_rfl⟩) zInt rfl rfl (by simp) (by decide) (Sat.nil (Ext.refl w)) ?_
  intro b w1 H
  simp only [List.nil_append, List.flatMap_nil] at H
  refine s_val rfl (x_move (by conv => lhs; whnf)) ?_
  refine s_append rfl (show SlT Try.prog 31 3 1 8 from ⟨by kernel_rfl, by kernel_rfl⟩) zInt ⟨_, (show SlT Try.prog 31 3 1 8 from ⟨by kernel_rfl, by kernel_rfl⟩).und⟩ rfl rfl H (i := 0) rfl (HR.ext H.ext) (fun u hu => by obtain ⟨v, _, rfl⟩ := List.mem_map.1 hu; rfl) (by omega) (by omega) ?_
  intro a' cap' w2 H2
  simp only [List.set_cons_zero, List.nil_append, Nat.zero_add] at H2
  rw [Nat.zero_add]
  refine s_val rfl (x_assign (by conv => lhs; whnf)) ?_
  refine s_end ?_
  refine WP_ret ?_
  refine retQ_1 rfl (by conv => lhs; whnf) ?_
  exact ⟨a', cap', rfl, H2⟩
end Go.Sl
