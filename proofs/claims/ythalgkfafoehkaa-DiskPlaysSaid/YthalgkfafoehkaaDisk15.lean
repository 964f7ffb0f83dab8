/- The laws' 'do'. -/
import Derived.Test.YthalgkfafoehkaaDisk14
namespace Go.Sl
open Go.Proofs

theorem acts_len {w : World} {a : Option Addr} {n cap : Nat} {acts : List ActV} (h : Rd w a n cap 5 (actCells acts)) : acts.length = n := by
  have := h.1
  rw [actCells_len] at this; omega
theorem runV_take (s : Nat) (acts : List ActV) (v : List (List Sect)) {k : Nat} {a : ActV} (h : acts[k]? = some a) : runV s (acts.take (k + 1)) v = actV (runV s (acts.take k) v) (a.op s) := by
  rw [List.take_add_one, h]
  show runV s (acts.take k ++ [a]) v = _
  rw [runV_snoc]
theorem do_calls {w0 w : World} {d s : Nat} {v : List (List Sect)} {sh : List Fe} {F : HP} {a : Option Addr} {n cap : Nat} {acts : List ActV} (hsh : RO w0 F sh) (HA : ∀ w', Ext w0 w' → Rd w' a n cap 5 (actCells acts))
    (hv : v.length = s) (hs : 0 < s) (hsm : SmallV 1000000 v) (H : Sat w0 w [DISK d (plainD v 0) sh, F]) :
    Calls Try.prog 15 #[dp d, .slice a n cap] w (Ret fun r w' => r = .tuple #[] ∧ Sat w0 w' [DISK d (plainD (runV s (acts.take (min 200 n)) v) (min 200 n)) sh, F]) := by
  have hn := acts_len (HA w H.ext)
  refine calls_of Try.func15 rfl rfl ?_
  refine WP_r rfl ?_
  refine s_val rfl (x_assign (by conv => lhs; whnf)) ?_
  refine s_end ?_
  refine WP_block ?_
  refine WP_loopA (α := Nat) (fun k => [(0, dp d), (1, .slice a n cap), (4, .int .i64 k)]) (fun k w' => k ≤ min 200 n ∧ Sat w0 w' [DISK d (plainD (runV s (acts.take k) v) k) sh, F]) (fun k => 200 - k) 0 ⟨rfl, rfl, rfl, trivial⟩ ⟨Nat.zero_le _, H⟩ ?_
  clear H
  intro k ρ w1 ⟨hk, H⟩
  refine WP_seq ?_
  refine WP_r rfl ?_
  refine s_val rfl (x_move (by conv => lhs; whnf)) ?_
  refine s_val rfl (x_move (by conv => lhs; whnf)) ?_
  refine s_val rfl (x_lenS (by kernel_rfl) rfl) ?_
  refine s_val rfl (x_lss rfl rfl) ?_
  refine s_dec rfl (x_move rfl) (fun h1 => ?_) (fun h1 => ?_)
  · skip
    refine s_val rfl (x_move (by conv => lhs; whnf)) ?_
    refine s_val rfl (x_lss rfl rfl) ?_
    refine s_val rfl (x_pick_true rfl (by conv => lhs; whnf)) ?_
    refine s_end ?_
    refine WP_cond_dec rfl (fun h2 => ?_) (fun h2 => ?_)
    · skip
      refine WP_skip ?_
      refine thenQ_n ?_
      refine WP_seq ?_
      refine WP_block ?_
      have hkn : k < n := by omega
      have HR := HA _ H.ext
      obtain ⟨b, hb⟩ : ∃ b, acts[k]? = some b := ⟨_, List.getElem?_eq_getElem (by omega)⟩
      have hel : ∀ i j, i = k → j < 5 → (actCells acts)[i * 5 + j]? = b.cells[j]? := fun i j hi hj => by subst hi; exact actCells_get acts i b j hb hj
      have hVl : (runV s (acts.take k) v).length = s := by rw [runV_len, hv]
      have hst := plain_step hs hVl b k (by omega)
      rw [← runV_take s acts v hb] at hst
      have hsmall : ∀ l ∈ (plainD (runV s (acts.take k) v) k).vals, l.length < 4611686018427387904 := fun l hl => by
        have := runV_small s (acts.take k) 1000000 v (by omega) hsm l hl
        rw [List.length_take] at this; omega
      refine WP_r rfl ?_
      refine s_val rfl (x_move (by conv => lhs; whnf)) ?_
      refine s_val rfl (x_move (by conv => lhs; whnf)) ?_
      refine s_val rfl (x_index (show SlT Try.prog 22 33 5 56 from ⟨by kernel_rfl, by kernel_rfl⟩) rfl rfl (by omega) (by omega) HR) ?_
      refine s_val rfl (x_fieldR (off := 0) (by kernel_rfl) rfl HR (by rw [actCells_len]; omega)) ?_
      refine s_val rfl (x_loadR (by kernel_rfl) rfl HR (hel _ 0 (by omega) (by omega))) ?_
      refine s_call rfl (by kernel_rfl) (Among_calls b.do_ 4 (by omega) (by omega)) rfl rfl ?_
      rintro r w2 ⟨rfl, rfl⟩
      refine s_val rfl (x_eql (a := among b.do_ 4) (b := 3) rfl rfl) ?_
      refine s_end ?_
      refine WP_cond_dec rfl (fun h3 => ?_) (fun h3 => ?_)
      · skip
        refine WP_region rfl ?_
        refine s_val rfl (x_move (by conv => lhs; whnf)) ?_
        refine s_call rfl (by kernel_rfl) (Sync_at H (i := 0) rfl (j := 0) rfl hsh) rfl rfl ?_
        clear H
        rintro r w3 ⟨rfl, H⟩
        have hop : b.op s = none := by unfold ActV.op; rw [if_pos h3]
        rw [hop] at hst
        rw [show (plainD (runV s (acts.take k) v) k).sync.2 = plainD (runV s (acts.take (k + 1)) v) (k + 1) from congrArg Prod.snd hst] at H
        replace H : Sat w0 w3 [DISK d (plainD (runV s (acts.take (k + 1)) v) (k + 1)) sh, F] := H
        refine s_end ?_
        refine blockQ_n ?_
        refine thenQ_n ?_
        refine WP_region rfl ?_
        refine s_val rfl (x_move (by conv => lhs; whnf)) ?_
        refine s_val rfl (x_addi rfl rfl (by omega)) ?_
        refine s_val rfl (x_assign (by conv => lhs; whnf)) ?_
        refine s_end ?_
        refine loopQ_A (k + 1) (by omega) ⟨rfl, rfl, rfl, trivial⟩ ⟨by omega, H⟩
      · skip
        refine WP_draw (fun w' => Ext w0 w') (.float 0 (.float 1 (.float 2 (.float 3 (.float 4 (.float 5 (.float 6 (.float 9 (.float 10 (.float 11 (.float 12 (.float 13 (.fork [(7, .fork [(8, .fork [(14, .fork [(15, .done)])])])]))))))))))))) (by kernel_rfl) (by kernel_rfl) H.ext ?_
        replace H := H.heapEq (w' := { w2 with drawn := w2.drawn + 1 }) rfl
        have hop : b.op s = some ((among b.at_ s).toNat, b.fill) := by unfold ActV.op; rw [if_neg h3]
        rw [hop] at hst
        have hat := among_bounds b.at_ s (by omega)
        refine r_val rfl rfl (fun w hI => x_move (by conv => lhs; whnf)) ?_
        refine r_val rfl rfl (fun w hI => x_move (by conv => lhs; whnf)) ?_
        refine r_val rfl rfl (fun w hI => x_move (by conv => lhs; whnf)) ?_
        refine r_val rfl rfl (fun w hI => x_index (show SlT Try.prog 22 33 5 56 from ⟨by kernel_rfl, by kernel_rfl⟩) rfl rfl (by omega) (by omega) (HA _ hI)) ?_
        refine r_val rfl rfl (fun w hI => x_fieldR (off := 1) (by kernel_rfl) rfl (HA _ hI) (by rw [actCells_len]; omega)) ?_
        refine r_val rfl rfl (fun w hI => x_loadR (by kernel_rfl) rfl (HA _ hI) (hel _ 1 (by omega) (by omega))) ?_
        refine r_val rfl rfl (fun w hI => x_move (by conv => lhs; whnf)) ?_
        refine r_val rfl rfl (fun w hI => x_move (by conv => lhs; whnf)) ?_
        refine r_val rfl rfl (fun w hI => x_move (by conv => lhs; whnf)) ?_
        refine r_val rfl rfl (fun w hI => x_index (show SlT Try.prog 22 33 5 56 from ⟨by kernel_rfl, by kernel_rfl⟩) rfl rfl (by omega) (by omega) (HA _ hI)) ?_
        refine r_val rfl rfl (fun w hI => x_fieldR (off := 3) (by kernel_rfl) rfl (HA _ hI) (by rw [actCells_len]; omega)) ?_
        refine r_val rfl rfl (fun w hI => x_loadR (by kernel_rfl) rfl (HA _ hI) (hel _ 3 (by omega) (by omega))) ?_
        refine r_one rfl ?_
        refine s_call rfl (by kernel_rfl) (Sectors_calls (H.holdD (i := 0) rfl (j := 1) rfl hsh)) rfl rfl ?_
        rintro r w4 ⟨rfl, e4⟩
        replace H := H.heapEq e4
        clear e4
        rw [show (plainD (runV s (acts.take k) v) k).vals.length = s from hVl]
        refine s_end ?_
        refine ⟨H.ext, ?_⟩
        refine r_one rfl ?_
        refine s_call rfl (by kernel_rfl) (Among_calls b.at_ s (by omega) (by have := (DISK.read (H.holdD (i := 0) rfl (j := 1) rfl hsh)).choose_spec.choose_spec.choose_spec.choose_spec.choose_spec.choose_spec.ok.big; rw [show (plainD (runV s (acts.take k) v) k).vals.length = s from hVl] at this; omega)) rfl rfl ?_
        rintro r w5 ⟨rfl, rfl⟩
        refine s_end ?_
        refine ⟨H.ext, ?_⟩
        refine r_one rfl ?_
        refine s_call rfl (by kernel_rfl) (full_calls b.fill) rfl rfl ?_
        rintro r w6 ⟨a6, rfl, H6⟩
        replace H : Sat w0 w6 [DISK d (plainD (runV s (acts.take k) v) k) sh, F, slo 5 1 a6 256 256 (bys (fullS b.fill))] := H.more H6
        clear H6
        refine s_end ?_
        refine ⟨H.ext, ?_⟩
        refine r_one rfl ?_
        refine s_call rfl (by kernel_rfl) (Write_at H (i := 0) rfl (j := 0) rfl hsh (among b.at_ s) (k := 1) rfl hsmall) rfl rfl ?_
        clear H
        rintro r w7 ⟨rfl, H⟩
        have hwr : ((plainD (runV s (acts.take k) v) k).write (among b.at_ s) (fullS b.fill)).2 = plainD (runV s (acts.take (k + 1)) v) (k + 1) := by
          have h5 : ((plainD (runV s (acts.take k) v) k).write ((among b.at_ s).toNat : Int) (fullS b.fill)).2 = plainD (runV s (acts.take (k + 1)) v) (k + 1) := congrArg Prod.snd hst
          rw [show (((among b.at_ s).toNat : Nat) : Int) = among b.at_ s by omega] at h5
          exact h5
        rw [hwr] at H
        replace H : Sat w0 w7 [DISK d (plainD (runV s (acts.take (k + 1)) v) (k + 1)) sh, F] := H.drop 2
        refine s_end ?_
        refine ⟨H.ext, ?_⟩
        refine r_done ?_
        refine blockQ_n ?_
        refine thenQ_n ?_
        refine WP_region rfl ?_
        refine s_val rfl (x_move (by conv => lhs; whnf)) ?_
        refine s_val rfl (x_addi rfl rfl (by omega)) ?_
        refine s_val rfl (x_assign (by conv => lhs; whnf)) ?_
        refine s_end ?_
        refine loopQ_A (k + 1) (by omega) ⟨rfl, rfl, rfl, trivial⟩ ⟨by omega, H⟩
    · skip
      refine WP_exit ?_
      refine thenQ_e ?_
      refine loopQ_e ?_
      refine blockQ_hit ?_
      have hfin : k = min 200 n := by omega
      subst hfin
      refine retQ_0n rfl ?_
      exact ⟨rfl, H⟩
  · skip
    refine s_out rfl ?_
    refine s_out rfl ?_
    refine s_val rfl (x_pick_false rfl (by conv => lhs; whnf)) ?_
    refine s_end ?_
    refine WP_cond_false rfl ?_
    refine WP_exit ?_
    refine thenQ_e ?_
    refine loopQ_e ?_
    refine blockQ_hit ?_
    have hfin : k = min 200 n := by omega
    subst hfin
    refine retQ_0n rfl ?_
    exact ⟨rfl, H⟩
end Go.Sl
