/- DiskPlays: the good road (draft). -/
import Derived.Test.YthalgkfafoehkaaPlays2
namespace Go.Sl
open Go.Proofs
theorem Plays_good {w : World} {s : Int} {ia aa : Option Addr} {n ic an ac : Nat} {S : List UInt8} {acts : List ActV} (HR : Rd w ia n ic 1 (bys S)) (hn2 : n ≤ 140737488355328) (HA : Rd w aa an ac 5 (actCells acts)) (hok : ∀ b ∈ acts, ActFit w b)
    (hg1 : n = 0 → ¬ (s < 1 ∨ 4096 < s)) (hg2 : 0 < n → ¬ (S.length % 256 ≠ 0 ∨ S.length / 256 < 1 ∨ 4096 < S.length / 256)) :
    Calls Try.prog 5 #[.int .i64 s, .slice ia n ic, .slice aa an ac] w (Ret fun v w' => v = .bool true ∧ Ext w w') := by
  refine calls_of Try.func5 rfl rfl ?_
  refine WP_r rfl ?_
  refine s_val rfl (x_assign (by conv => lhs; whnf)) ?_
  refine s_end ?_
  refine WP_r rfl ?_
  refine s_val rfl (x_move (by conv => lhs; whnf)) ?_
  refine s_call rfl (by kernel_rfl) (New_any (Sat.nil (Ext.refl w)) s) rfl rfl ?_
  rintro v w1 ⟨p1, e1, N1, rfl, H, g1⟩
  refine s_val rfl (x_move (by conv => lhs; whnf)) ?_
  refine s_val rfl (x_extract rfl rfl) ?_
  refine s_val rfl (x_extract rfl rfl) ?_
  refine s_val rfl (x_assign (by conv => lhs; whnf)) ?_
  refine s_val rfl (x_assign (by conv => lhs; whnf)) ?_
  refine s_end ?_
  refine WP_r rfl ?_
  refine s_val rfl (x_move (by conv => lhs; whnf)) ?_
  refine s_call rfl (by kernel_rfl) (rNew_any H s) rfl rfl ?_
  clear H
  rintro v w2 ⟨p2, e2, N2, rfl, H, g2⟩
  refine s_val rfl (x_move (by conv => lhs; whnf)) ?_
  refine s_val rfl (x_extract rfl rfl) ?_
  refine s_val rfl (x_extract rfl rfl) ?_
  refine s_val rfl (x_assign (by conv => lhs; whnf)) ?_
  refine s_val rfl (x_assign (by conv => lhs; whnf)) ?_
  refine s_end ?_
  refine WP_meetA (α := Nat × Nat × D) (fun p => [(2, .slice aa an ac), (7, dp p.1), (8, .int .i64 0), (9, dp p.2.1), (10, .int .i64 0)]) (fun p w' => SmallV 1 p.2.2.vals ∧ Sat w w' [DISK p.1 p.2.2 [], emp, REF p.2.1 p.2.2]) ?_ ?_
  · skip
    refine WP_r rfl ?_
    refine s_val rfl (x_move (by conv => lhs; whnf)) ?_
    refine s_val rfl (x_lenS (by kernel_rfl) rfl) ?_
    refine s_val rfl (x_gtr rfl rfl) ?_
    refine s_end ?_
    refine WP_cond_dec rfl (fun h1 => ?_) (fun h1 => ?_)
    · skip
      refine WP_r rfl ?_
      refine s_val rfl (x_move (by conv => lhs; whnf)) ?_
      refine s_call rfl (by kernel_rfl) (Bytes_calls (HR.ext H.ext) hn2) rfl rfl ?_
      rintro v w3 ⟨a3, c3, rfl, H3⟩
      refine s_call rfl (by kernel_rfl) (Load_calls (H3.rd (i := 0) rfl) hn2) rfl rfl ?_
      rintro v w4 ⟨_, h4⟩
      obtain ⟨d, rfl, H4⟩ := h4 (hg2 (by omega))
      refine s_val rfl (x_move (by conv => lhs; whnf)) ?_
      refine s_val rfl (x_extract rfl rfl) ?_
      refine s_val rfl (x_extract rfl rfl) ?_
      refine s_val rfl (x_assign (by conv => lhs; whnf)) ?_
      refine s_val rfl (x_assign (by conv => lhs; whnf)) ?_
      refine s_end ?_
      refine WP_region rfl ?_
      refine s_val rfl (x_move (by conv => lhs; whnf)) ?_
      refine s_call rfl (by kernel_rfl) (rLoad_calls (HR.ext ((H.ext.trans H3.ext).trans H4.ext)) hn2) rfl rfl ?_
      rintro v w5 ⟨_, h5⟩
      obtain ⟨y, rfl, H5⟩ := h5 (hg2 (by omega))
      refine s_val rfl (x_move (by conv => lhs; whnf)) ?_
      refine s_val rfl (x_extract rfl rfl) ?_
      refine s_val rfl (x_extract rfl rfl) ?_
      refine s_val rfl (x_assign (by conv => lhs; whnf)) ?_
      refine s_val rfl (x_assign (by conv => lhs; whnf)) ?_
      refine s_end ?_
      first
        | exact thenQ_meet (d, y, D.ofImage (S.length / 256) S) ⟨rfl, rfl, rfl, rfl, rfl, trivial⟩ ⟨image_small, (((Sat.nil ((H.ext.trans H3.ext))).more H4).more H5).re 1 3 [0, 2, 1] (by kernel_rfl)⟩
        | (obtain ⟨d, rfl, rfl, rfl⟩ := g1 (hg1 (by omega))
           obtain ⟨y, rfl, rfl, rfl⟩ := g2 (hg1 (by omega))
           exact thenQ_meet (d, y, D.zero s.toNat) ⟨rfl, rfl, rfl, rfl, rfl, trivial⟩ ⟨by rw [zero_plain]; exact zeroV_small1 _, H.re 1 3 [0, 2, 1] (by kernel_rfl)⟩)
    · skip
      refine WP_skip ?_
      first
        | exact thenQ_meet (d, y, D.ofImage (S.length / 256) S) ⟨rfl, rfl, rfl, rfl, rfl, trivial⟩ ⟨image_small, (((Sat.nil ((H.ext.trans H3.ext))).more H4).more H5).re 1 3 [0, 2, 1] (by kernel_rfl)⟩
        | (obtain ⟨d, rfl, rfl, rfl⟩ := g1 (hg1 (by omega))
           obtain ⟨y, rfl, rfl, rfl⟩ := g2 (hg1 (by omega))
           exact thenQ_meet (d, y, D.zero s.toNat) ⟨rfl, rfl, rfl, rfl, rfl, trivial⟩ ⟨by rw [zero_plain]; exact zeroV_small1 _, H.re 1 3 [0, 2, 1] (by kernel_rfl)⟩)
  · skip
    rintro ⟨d, y, x0⟩ ρ w6 ⟨hsm, H⟩
    simp only at hsm H
    refine WP_seq ?_
    refine WP_r rfl ?_
    refine s_val rfl (x_move (by conv => lhs; whnf)) ?_
    refine s_val rfl (x_move (by conv => lhs; whnf)) ?_
    refine s_val rfl (x_neq rfl rfl) ?_
    refine s_val rfl (x_move (by conv => lhs; whnf)) ?_
    refine s_val rfl (x_move (by conv => lhs; whnf)) ?_
    refine s_val rfl (x_eqlPtrNil (by kernel_rfl) rfl) ?_
    refine s_val rfl (x_move (by conv => lhs; whnf)) ?_
    refine s_val rfl (x_neq rfl rfl) ?_
    refine s_val rfl (x_neqBool_of (p := false) (q := false) rfl (by kernel_rfl) rfl rfl) ?_
    refine s_val rfl (x_pick_false rfl (by conv => lhs; whnf)) ?_
    refine s_end ?_
    refine WP_cond_false rfl ?_
    refine WP_skip ?_
    refine thenQ_n ?_
    refine WP_seq ?_
    refine WP_r rfl ?_
    refine s_val rfl (x_move (by conv => lhs; whnf)) ?_
    refine s_val rfl (x_eqlPtrNil (by kernel_rfl) rfl) ?_
    refine s_end ?_
    refine WP_cond_false rfl ?_
    refine WP_skip ?_
    refine thenQ_n ?_
    refine WP_meetA (α := Nat) (fun d2 => [(7, dp d2), (9, dp y)]) (fun d2 w' => ∃ x sh FR, RO w FR sh ∧ Sat w w' [DISK d2 x sh, FR, REF y x]) ?_ ?_
    · skip
      refine WP_r rfl ?_
      refine s_val rfl (x_assign (by conv => lhs; whnf)) ?_
      refine s_end ?_
      refine WP_block ?_
      have hal := acts_len HA
      refine WP_loopA (α := Nat × Nat) (fun p => [(2, .slice aa an ac), (7, dp p.2), (9, dp y), (11, .int .i64 p.1)]) (fun p w' => p.1 ≤ 200 ∧ p.1 ≤ an ∧ ∃ x sh FR, RO w FR sh ∧ SmallV (p.1 + 1) x.vals ∧ Sat w w' [DISK p.2 x sh, FR, REF y x]) (fun p => 200 - p.1) (0, d) ⟨rfl, rfl, rfl, rfl, trivial⟩ ⟨by show (0 : Nat) ≤ 200; omega, Nat.zero_le _, x0, [], emp, RO.nil _ _, hsm, H⟩ ?_
      clear H hsm
      rintro ⟨i, dd⟩ ρ w7 ⟨hi, hian, x, sh, FR, hsh, hsm, H⟩
      simp only at hi hian hsm H
      refine WP_seq ?_
      refine WP_r rfl ?_
      refine s_val rfl (x_move (by conv => lhs; whnf)) ?_
      refine s_val rfl (x_move (by conv => lhs; whnf)) ?_
      refine s_val rfl (x_lenS (by kernel_rfl) rfl) ?_
      refine s_val rfl (x_lss rfl rfl) ?_
      refine s_dec rfl (x_move rfl) (fun h2 => ?_) (fun h2 => ?_)
      · skip
        refine s_val rfl (x_move (by conv => lhs; whnf)) ?_
        refine s_val rfl (x_lss rfl rfl) ?_
        refine s_val rfl (x_pick_true rfl (by conv => lhs; whnf)) ?_
        refine s_end ?_
        refine WP_cond_dec rfl (fun h3 => ?_) (fun h3 => ?_)
        · skip
          refine WP_skip ?_
          refine thenQ_n ?_
          refine WP_seq ?_
          refine WP_block ?_
          have HA' := HA.ext H.ext
          obtain ⟨b, hb⟩ : ∃ b, acts[i]? = some b := ⟨_, List.getElem?_eq_getElem (by omega)⟩
          have hbo := hok b (List.mem_of_getElem? hb)
          have htk := actCells_take acts i b hb
          have ei : (i : Int).toNat * 5 = i * 5 := by omega
          refine WP_r rfl ?_
          refine s_val rfl (x_move (by conv => lhs; whnf)) ?_
          refine s_val rfl (x_move (by conv => lhs; whnf)) ?_
          refine s_val rfl (x_index (show SlT Try.prog 22 33 5 56 from ⟨by kernel_rfl, by kernel_rfl⟩) rfl rfl (by omega) (by omega) HA') ?_
          refine s_val rfl (x_loadRA (m := 5) (by kernel_rfl) rfl HA' (by rw [actCells_len]; omega) (by decide)) ?_
          rw [ei, htk]
          refine s_alloc rfl (show ZeroT Try.prog 33 (.agg #[.int .i64 0, .int .i64 0, .int .i64 0, .int .u8 0, .slice none 0 0]) by unfold ZeroT; kernel_rfl) H ?_
          clear H
          intro t w8 H8
          have H : Sat w w8 [DISK dd x sh, FR, REF y x, blk t (.cells [.int .i64 0, .int .i64 0, .int .i64 0, .int .u8 0, .slice none 0 0].toArray 33 (0, 0))] := H8
          clear H8
          refine s_storeA rfl (n := 5) (by kernel_rfl) rfl rfl rfl (by simp [ActV.cells, Value.oneCell']) H (i := 3) rfl (by simp [ActV.cells]) ?_
          clear H
          intro w9 H9
          have H : Sat w w9 [DISK dd x sh, FR, REF y x, blk t (.cells #[.int .i64 b.do_, .int .i64 b.at_, .int .i64 b.n, .int .u8 b.fill.toNat, .slice b.pa b.pn b.pc] 33 (0, 0))] := H9
          clear H9
          refine s_end ?_
          refine WP_r rfl ?_
          refine s_val rfl (x_assign (by conv => lhs; whnf)) ?_
          refine s_end ?_
          refine WP_meetA (α := Nat) (fun d2 => [(2, .slice aa an ac), (7, dp d2), (9, dp y), (11, .int .i64 i), (13, .bool true)]) (fun d2 w' => ∃ x sh FR, RO w FR sh ∧ SmallV (i + 2) x.vals ∧ Sat w w' [DISK d2 x sh, FR, REF y x]) ?_ ?_
          · skip
            refine WP_r rfl ?_
            refine s_val rfl (x_field (off := 0) (by kernel_rfl) rfl) ?_
            refine s_val rfl (x_load (by kernel_rfl) rfl (by first | exact hI.c3 | exact hI.c0 | exact hI.1 | exact hI.2 | exact H.cell (i := 3) rfl rfl)) ?_
            refine s_call rfl (by kernel_rfl) (Among_calls b.do_ 8 (by omega) (by omega)) rfl rfl ?_
            rintro r w10 ⟨rfl, rfl⟩
            have hbd := among_bounds b.do_ 8 (by omega)
            generalize among b.do_ 8 = q at hbd ⊢
            refine s_end ?_
            refine WP_block ?_
            refine WP_meetA (α := Bool) (fun p => [(2, .slice aa an ac), (7, dp dd), (9, dp y), (11, .int .i64 i), (12, .pointer (some ⟨t, 0, none⟩)), (13, .bool true), (74, .int .i64 q), (75, .bool p)]) (fun p w' => (p = false → ¬ q = 0 ∧ ¬ q = 1 ∧ ¬ q = 2) ∧ Sat w w' [DISK dd x sh, FR, REF y x, blk t (.cells #[.int .i64 b.do_, .int .i64 b.at_, .int .i64 b.n, .int .u8 b.fill.toNat, .slice b.pa b.pn b.pc] 33 (0, 0))]) ?_ ?_
            · skip
              refine WP_r rfl ?_
              refine s_val rfl (x_eql rfl rfl) ?_
              refine s_val rfl (x_assign (by conv => lhs; whnf)) ?_
              refine s_end ?_
              refine WP_cond_dec rfl (fun h4 => ?_) (fun h4 => ?_)
              · skip
                refine WP_skip ?_
                exact thenQ_meet _ ⟨rfl, rfl, rfl, rfl, rfl, rfl, rfl, rfl, trivial⟩ ⟨by first | (intro h; cases h; done) | (intro h; have := of_decide_eq_false h; omega), H⟩
              · skip
                refine WP_r rfl ?_
                refine s_val rfl (x_eql rfl rfl) ?_
                refine s_val rfl (x_assign (by conv => lhs; whnf)) ?_
                refine s_end ?_
                refine WP_cond_dec rfl (fun h5 => ?_) (fun h5 => ?_)
                · skip
                  refine WP_skip ?_
                  exact thenQ_meet _ ⟨rfl, rfl, rfl, rfl, rfl, rfl, rfl, rfl, trivial⟩ ⟨by first | (intro h; cases h; done) | (intro h; have := of_decide_eq_false h; omega), H⟩
                · skip
                  refine WP_region rfl ?_
                  refine s_val rfl (x_eql rfl rfl) ?_
                  refine s_val rfl (x_assign (by conv => lhs; whnf)) ?_
                  refine s_end ?_
                  exact thenQ_meet _ ⟨rfl, rfl, rfl, rfl, rfl, rfl, rfl, rfl, trivial⟩ ⟨by first | (intro h; cases h; done) | (intro h; have := of_decide_eq_false h; omega), H⟩
            · skip
              clear H
              rintro p16 ρ w11 ⟨hp16, H⟩
              refine WP_cond rfl (fun h6 => ?_) (fun h6 => ?_)
              · skip
                refine WP_r rfl ?_
                refine s_val rfl (x_field (off := 3) (by kernel_rfl) rfl) ?_
                refine s_val rfl (x_load (by kernel_rfl) rfl (by first | exact hI.c3 | exact hI.c0 | exact hI.1 | exact hI.2 | exact H.cell (i := 3) rfl rfl)) ?_
                refine s_call rfl (by kernel_rfl) (full_calls b.fill) rfl rfl ?_
                rintro r w12 ⟨a1, rfl, H1⟩
                replace H := H.more H1
                clear H1
                simp only [List.cons_append, List.nil_append] at H
                refine s_val rfl (x_assign (by conv => lhs; whnf)) ?_
                refine s_end ?_
                refine WP_meetA (α := Option Addr × Nat × Nat × Nat) (fun p => [(2, .slice aa an ac), (7, dp dd), (9, dp y), (11, .int .i64 i), (12, .pointer (some ⟨t, 0, none⟩)), (14, .slice p.1 p.2.1 p.2.2.1)]) (fun p w' => p.2.1 = 256 - p.2.2.2 ∧ p.2.2.2 ≤ 1 ∧ p.2.1 ≤ p.2.2.1 ∧ SubOf p.1 p.2.1 a1 (p.2.2.2 * 1) ∧ Sat w w' [DISK dd x sh, FR, REF y x, blk t (.cells #[.int .i64 b.do_, .int .i64 b.at_, .int .i64 b.n, .int .u8 b.fill.toNat, .slice b.pa b.pn b.pc] 33 (0, 0)), slo 5 1 a1 256 256 (bys (fullS b.fill))]) ?_ ?_
                · skip
                  refine WP_r rfl ?_
                  refine s_val rfl (x_field (off := 2) (by kernel_rfl) rfl) ?_
                  refine s_val rfl (x_load (by kernel_rfl) rfl (by first | exact hI.c3 | exact hI.c0 | exact hI.1 | exact hI.2 | exact H.cell (i := 3) rfl rfl)) ?_
                  refine s_val rfl (x_eql rfl rfl) ?_
                  refine s_end ?_
                  refine WP_cond_dec rfl (fun h7 => ?_) (fun h7 => ?_)
                  · skip
                    refine WP_region rfl ?_
                    refine s_val rfl (x_move (by conv => lhs; whnf)) ?_
                    refine s_val rfl (x_sliceLo (show SlT Try.prog 37 5 1 1 from ⟨by kernel_rfl, by kernel_rfl⟩) rfl rfl (by omega) (by omega) (Nat.le_refl _)) ?_
                    refine s_val rfl (x_assign (by conv => lhs; whnf)) ?_
                    refine s_end ?_
                    first
                      | exact thenQ_meet (a1, 256, 256, 0) ⟨rfl, rfl, rfl, rfl, rfl, rfl, trivial⟩ ⟨rfl, Nat.zero_le _, Nat.le_refl _, SubOf.refl _ (fun h => let ⟨b, off, h, _⟩ := (H.rd (i := 4) rfl).2.2 h; ⟨b, off, h⟩), H⟩
                      | exact thenQ_meet (cutAt a1 256 1 1, 255, 255, 1) ⟨rfl, rfl, rfl, rfl, rfl, rfl, trivial⟩ ⟨rfl, Nat.le_refl _, Nat.le_refl _, cutAt_sub (lo := 1) (hi := 256) (H.rd (i := 4) rfl) (by decide) (by decide), H⟩
                  · skip
                    refine WP_skip ?_
                    first
                      | exact thenQ_meet (a1, 256, 256, 0) ⟨rfl, rfl, rfl, rfl, rfl, rfl, trivial⟩ ⟨rfl, Nat.zero_le _, Nat.le_refl _, SubOf.refl _ (fun h => let ⟨b, off, h, _⟩ := (H.rd (i := 4) rfl).2.2 h; ⟨b, off, h⟩), H⟩
                      | exact thenQ_meet (cutAt a1 256 1 1, 255, 255, 1) ⟨rfl, rfl, rfl, rfl, rfl, rfl, trivial⟩ ⟨rfl, Nat.le_refl _, Nat.le_refl _, cutAt_sub (lo := 1) (hi := 256) (H.rd (i := 4) rfl) (by decide) (by decide), H⟩
                · skip
                  clear H
                  rintro ⟨a2, n2, c2, k2⟩ ρ w13 ⟨hn2k, hk2, hc2, hsub, H⟩
                  simp only at hn2k hk2 hc2 hsub H
                  have hbs : ∀ w', Rd w' a1 256 256 1 (bys (fullS b.fill)) → Rd w' a2 n2 c2 1 (bys (List.replicate n2 b.fill)) := fun w' h => by
                    have h1 := h.sub hsub (cap' := c2) (by omega) hc2
                    rw [Nat.mul_one, Nat.mul_one, bys_drop, bys_take, full_drop, List.take_replicate, show min n2 (256 - k2) = n2 by omega] at h1
                    exact h1
                  have hfp : ∀ w' a', Rd w' a' 256 256 1 (bys (fullS b.fill)) → Rd w' a' n2 256 1 (bys (List.replicate n2 b.fill)) := fun w' a' h => by
                    have h1 := h.prefix (m := n2) (by omega)
                    rw [Nat.mul_one, bys_take, full_take _ _ (by omega)] at h1
                    exact h1
                  have hsm1 : ∀ l ∈ x.vals, l.length < 1000000000 := fun l hl => by have := hsm l hl; omega
                  refine WP_rd (fun w => w.cell? ⟨t, 1, none⟩ = some (.int .i64 b.at_) ∧ w.cell? ⟨t, 3, none⟩ = some (.int .u8 b.fill.toNat)) (.float 0 (.float 1 (.float 2 (.float 3 (.float 5 (.float 6 (.float 7 (.float 8 (.float 9 (.float 11 (.float 12 (.fork [(4, .fork [(10, .float 13 (.fork [(14, .float 15 (.float 16 .done))]))])])))))))))))) (by kernel_rfl) (by kernel_rfl) ⟨H.cell (i := 3) rfl rfl, H.cell (i := 3) rfl rfl⟩ ?_
                  replace H := H.heapEq (w' := { w13 with drawn := w13.drawn + 1 }) rfl
                  refine r_val rfl rfl (fun w hI => x_move (by conv => lhs; whnf)) ?_
                  refine r_val rfl rfl (fun w hI => x_field (off := 1) (by kernel_rfl) rfl) ?_
                  refine r_val rfl rfl (fun w hI => x_load (by kernel_rfl) rfl (by first | exact hI.c3 | exact hI.c0 | exact hI.1 | exact hI.2 | exact H.cell (i := 3) rfl rfl)) ?_
                  refine r_val rfl rfl (fun w hI => x_move (by conv => lhs; whnf)) ?_
                  refine r_val rfl rfl (fun w hI => x_move (by conv => lhs; whnf)) ?_
                  refine r_val rfl rfl (fun w hI => x_field (off := 1) (by kernel_rfl) rfl) ?_
                  refine r_val rfl rfl (fun w hI => x_load (by kernel_rfl) rfl (by first | exact hI.c3 | exact hI.c0 | exact hI.1 | exact hI.2 | exact H.cell (i := 3) rfl rfl)) ?_
                  refine r_val rfl rfl (fun w hI => x_field (off := 3) (by kernel_rfl) rfl) ?_
                  refine r_val rfl rfl (fun w hI => x_load (by kernel_rfl) rfl (by first | exact hI.c3 | exact hI.c0 | exact hI.1 | exact hI.2 | exact H.cell (i := 3) rfl rfl)) ?_
                  refine r_val rfl rfl (fun w hI => x_move (by conv => lhs; whnf)) ?_
                  refine r_val rfl rfl (fun w hI => x_lenS (by kernel_rfl) rfl) ?_
                  refine r_one rfl ?_
                  refine s_call rfl (by kernel_rfl) (Write_rd H (i := 0) rfl (j := 0) rfl hsh b.at_ (fun w' H' => hbs w' (H'.rd (i := 3) rfl)) (fun l hl => by have := hsm l hl; omega)) rfl rfl ?_
                  clear H
                  rintro r w14 ⟨rfl, H⟩
                  simp only [List.set_cons_zero] at H
                  refine s_end ?_
                  refine ⟨⟨H.cell (i := 3) rfl rfl, H.cell (i := 3) rfl rfl⟩, ?_⟩
                  refine r_one rfl ?_
                  refine s_call rfl (by kernel_rfl) (full_calls b.fill) rfl rfl ?_
                  rintro r w15 ⟨a3, rfl, H3⟩
                  replace H := H.more H3
                  clear H3
                  simp only [List.cons_append, List.nil_append] at H
                  refine s_end ?_
                  refine ⟨⟨H.cell (i := 3) rfl rfl, H.cell (i := 3) rfl rfl⟩, ?_⟩
                  refine r_val rfl rfl (fun w hI => x_sliceTo (n := 256) (m := n2) (show SlT Try.prog 37 5 1 1 from ⟨by kernel_rfl, by kernel_rfl⟩) rfl rfl (by omega) (Nat.le_refl _)) ?_
                  refine r_one rfl ?_
                  refine s_call rfl (by kernel_rfl) (rWrite_at (n := n2) (bs := List.replicate n2 b.fill) H (i := 2) rfl b.at_ (fun w' H' => hfp w' _ (H'.rd (i := 4) rfl)) hsm1) rfl rfl ?_
                  clear H
                  rintro r w16 ⟨rfl, H⟩
                  simp only [List.set_cons_zero, List.set_cons_succ] at H
                  refine s_end ?_
                  refine ⟨⟨H.cell (i := 3) rfl rfl, H.cell (i := 3) rfl rfl⟩, ?_⟩
                  refine r_val rfl rfl (fun w hI => x_eql_true rfl rfl) ?_
                  refine r_val rfl rfl (fun w hI => x_assign (by conv => lhs; whnf)) ?_
                  refine r_done ?_
                  refine WP_r rfl ?_
                  refine s_val rfl (x_assign (by conv => lhs; whnf)) ?_
                  refine s_end ?_
                  refine WP_block ?_
                  have H2 := H.re 0 5 [0, 1, 2, 4, 3, 5] (by kernel_rfl)
                  refine WP_loopA (α := Nat) (fun k => [(2, .slice aa an ac), (7, dp dd), (9, dp y), (11, .int .i64 i), (13, .bool true), (14, .slice a2 n2 c2), (15, .int .i64 k)]) (fun k w' => k ≤ n2 ∧ ∃ cs, Sat w w' [DISK dd (x.write b.at_ (List.replicate n2 b.fill)).2 sh, FR, REF y (x.write b.at_ (List.replicate n2 b.fill)).2, slo 5 1 a1 256 256 cs]) (fun k => n2 - k) 0 ⟨rfl, rfl, rfl, rfl, rfl, rfl, rfl, trivial⟩ ⟨Nat.zero_le _, _, H2.re 0 4 [0, 1, 2, 3, 4] (by kernel_rfl)⟩ ?_
                  clear H H2
                  rintro k ρ w17 ⟨hkn, cs, H⟩
                  refine WP_seq ?_
                  refine WP_r rfl ?_
                  refine s_val rfl (x_move (by conv => lhs; whnf)) ?_
                  refine s_val rfl (x_move (by conv => lhs; whnf)) ?_
                  refine s_val rfl (x_lenS (by kernel_rfl) rfl) ?_
                  refine s_val rfl (x_lss rfl rfl) ?_
                  refine s_end ?_
                  refine WP_cond_dec rfl (fun h8 => ?_) (fun h8 => ?_)
                  · skip
                    refine WP_skip ?_
                    refine thenQ_n ?_
                    refine WP_seq ?_
                    refine WP_block ?_
                    have hcl := (H.rd (i := 3) rfl).1
                    have hk3 : k < n2 := by omega
                    have HR2 := (H.rd (i := 3) rfl).sub hsub (cap' := c2) (by omega) hc2
                    refine WP_region rfl ?_
                    refine s_val rfl (x_move (by conv => lhs; whnf)) ?_
                    refine s_val rfl (x_move (by conv => lhs; whnf)) ?_
                    refine s_val rfl (x_index (show SlT Try.prog 37 5 1 1 from ⟨by kernel_rfl, by kernel_rfl⟩) rfl rfl (by omega) (by omega) HR2) ?_
                    refine s_storeO (k := k2 * 1 + (k : Int).toNat * 1) rfl (by kernel_rfl) (addrAt_sub hsub (by omega)) (by conv => lhs; whnf) rfl H (i := 3) rfl (by omega) ?_
                    clear H HR2
                    intro w18 H
                    simp only [List.set_cons_zero, List.set_cons_succ] at H
                    refine s_end ?_
                    refine blockQ_n ?_
                    refine thenQ_n ?_
                    refine WP_region rfl ?_
                    refine s_val rfl (x_move (by conv => lhs; whnf)) ?_
                    refine s_val rfl (x_addi rfl rfl (by omega)) ?_
                    refine s_val rfl (x_assign (by conv => lhs; whnf)) ?_
                    refine s_end ?_
                    refine loopQ_A (k + 1) (by omega) ⟨rfl, rfl, rfl, rfl, rfl, rfl, rfl, trivial⟩ ⟨by omega, _, H⟩
                  · skip
                    refine WP_exit ?_
                    refine thenQ_e ?_
                    refine loopQ_e ?_
                    refine blockQ_hit ?_
                    have HF : ∃ x sh FR, RO w FR sh ∧ SmallV (i + 2) x.vals ∧ Sat w _ [DISK dd x sh, FR, REF y x] := ⟨_, sh, FR, hsh, write_small hsm _ _, H.re 0 3 [0, 1, 2, 3] (by kernel_rfl)⟩
                    refine blockQ_n ?_
                    exact thenQ_meet _ ⟨rfl, rfl, rfl, rfl, rfl, trivial⟩ HF
              · skip
                refine WP_r rfl ?_
                refine s_val rfl (x_eql rfl rfl) ?_
                refine s_val rfl (x_assign (by conv => lhs; whnf)) ?_
                refine s_end ?_
                refine WP_cond_dec rfl (fun h9 => ?_) (fun h9 => ?_)
                · skip
                  refine WP_region rfl ?_
                  refine s_val rfl (x_move (by conv => lhs; whnf)) ?_
                  refine s_call rfl (by kernel_rfl) (Sync_at H (i := 0) rfl (j := 0) rfl hsh) rfl rfl ?_
                  clear H
                  rintro r w19 ⟨rfl, H⟩
                  simp only [List.set_cons_zero] at H
                  refine s_val rfl (x_move (by conv => lhs; whnf)) ?_
                  refine s_call rfl (by kernel_rfl) (rSync_at H (i := 2) rfl) rfl rfl ?_
                  clear H
                  rintro r w20 ⟨rfl, H⟩
                  simp only [List.set_cons_zero, List.set_cons_succ] at H
                  have HF : ∃ x sh FR, RO w FR sh ∧ SmallV (i + 2) x.vals ∧ Sat w w20 [DISK dd x sh, FR, REF y x] := ⟨_, sh, FR, hsh, sync_small (by omega) (hsm.le (by omega)), H.re 0 3 [0, 1, 2, 3] (by kernel_rfl)⟩
                  refine s_val rfl (x_eql_true rfl rfl) ?_
                  refine s_val rfl (x_assign (by conv => lhs; whnf)) ?_
                  refine s_end ?_
                  refine blockQ_n ?_
                  exact thenQ_meet _ ⟨rfl, rfl, rfl, rfl, rfl, trivial⟩ HF
                · skip
                  refine WP_r rfl ?_
                  refine s_val rfl (x_eql rfl rfl) ?_
                  refine s_val rfl (x_assign (by conv => lhs; whnf)) ?_
                  refine s_end ?_
                  refine WP_cond_dec rfl (fun h10 => ?_) (fun h10 => ?_)
                  · skip
                    refine WP_r rfl ?_
                    refine s_val rfl (x_move (by conv => lhs; whnf)) ?_
                    refine s_val rfl (x_field (off := 1) (by kernel_rfl) rfl) ?_
                    refine s_val rfl (x_load (by kernel_rfl) rfl (by first | exact hI.c3 | exact hI.c0 | exact hI.1 | exact hI.2 | exact H.cell (i := 3) rfl rfl)) ?_
                    refine s_call rfl (by kernel_rfl) (Read_calls (H.holdD (i := 0) rfl (j := 1) rfl hsh) b.at_) rfl rfl ?_
                    rintro r w21 ⟨a5, n5, c5, rfl, H5⟩
                    replace H := H.more H5
                    clear H5
                    simp only [List.cons_append, List.nil_append] at H
                    have hn5 : n5 ≤ 256 := by have h1 := (H.rd (i := 4) rfl).1; rw [bys_length] at h1; have h2 := read_le (HoldD.ok (H.holdD (i := 0) rfl (j := 1) rfl hsh)) b.at_; omega
                    obtain ⟨va, vc, rows, R⟩ := REF.read H (i := 2) rfl
                    refine s_val rfl (x_move (by conv => lhs; whnf)) ?_
                    refine s_val rfl (x_extract rfl rfl) ?_
                    refine s_val rfl (x_extract rfl rfl) ?_
                    refine s_val rfl (x_assign (by conv => lhs; whnf)) ?_
                    refine s_val rfl (x_assign (by conv => lhs; whnf)) ?_
                    refine s_end ?_
                    refine WP_r rfl ?_
                    refine s_val rfl (x_move (by conv => lhs; whnf)) ?_
                    refine s_val rfl (x_field (off := 1) (by kernel_rfl) rfl) ?_
                    refine s_val rfl (x_load (by kernel_rfl) rfl (by first | exact hI.c3 | exact hI.c0 | exact hI.1 | exact hI.2 | exact H.cell (i := 3) rfl rfl)) ?_
                    refine s_call rfl (by kernel_rfl) (rRead_calls R b.at_) rfl rfl ?_
                    rintro r w22 ⟨a6, n6, c6, rfl, H6⟩
                    replace H := H.more H6
                    clear H6 R
                    simp only [List.cons_append, List.nil_append] at H
                    refine s_val rfl (x_move (by conv => lhs; whnf)) ?_
                    refine s_val rfl (x_extract rfl rfl) ?_
                    refine s_val rfl (x_extract rfl rfl) ?_
                    refine s_val rfl (x_assign (by conv => lhs; whnf)) ?_
                    refine s_val rfl (x_assign (by conv => lhs; whnf)) ?_
                    refine s_end ?_
                    refine WP_r rfl ?_
                    refine s_val rfl (x_move (by conv => lhs; whnf)) ?_
                    refine s_val rfl (x_move (by conv => lhs; whnf)) ?_
                    refine s_call rfl (by kernel_rfl) (SameBytes_calls (H.rd (i := 4) rfl) (H.rd (i := 5) rfl) (by omega)) rfl rfl ?_
                    rintro r w23 ⟨rfl, e23⟩
                    rw [decide_eq_true rfl]
                    replace H := H.heapEq e23
                    clear e23
                    refine s_val rfl (x_move (by conv => lhs; whnf)) ?_
                    refine s_val rfl (x_move (by conv => lhs; whnf)) ?_
                    refine s_val rfl (x_move (by conv => lhs; whnf)) ?_
                    refine s_val rfl (x_eql_true rfl rfl) ?_
                    refine s_val rfl (x_pick_true rfl (by conv => lhs; whnf)) ?_
                    refine s_val rfl (x_assign (by conv => lhs; whnf)) ?_
                    refine s_end ?_
                    refine WP_r rfl ?_
                    refine s_val rfl (x_assign (by conv => lhs; whnf)) ?_
                    refine s_end ?_
                    refine WP_block ?_
                    have H2 := H.re 0 4 [0, 1, 2, 4, 3, 5] (by kernel_rfl)
                    refine WP_loopA (α := Nat) (fun k => [(2, .slice aa an ac), (7, dp dd), (9, dp y), (11, .int .i64 i), (13, .bool true), (16, .slice a5 n5 c5), (20, .int .i64 k)]) (fun k w' => k ≤ n5 ∧ ∃ cs, Sat w w' [DISK dd x sh, FR, REF y x, slo 5 1 a5 n5 c5 cs]) (fun k => n5 - k) 0 ⟨rfl, rfl, rfl, rfl, rfl, rfl, rfl, trivial⟩ ⟨Nat.zero_le _, _, H2⟩ ?_
                    clear H H2
                    rintro k ρ w24 ⟨hkn, cs, H⟩
                    refine WP_seq ?_
                    refine WP_r rfl ?_
                    refine s_val rfl (x_move (by conv => lhs; whnf)) ?_
                    refine s_val rfl (x_move (by conv => lhs; whnf)) ?_
                    refine s_val rfl (x_lenS (by kernel_rfl) rfl) ?_
                    refine s_val rfl (x_lss rfl rfl) ?_
                    refine s_end ?_
                    refine WP_cond_dec rfl (fun h11 => ?_) (fun h11 => ?_)
                    · skip
                      refine WP_skip ?_
                      refine thenQ_n ?_
                      refine WP_seq ?_
                      refine WP_block ?_
                      have hcl := (H.rd (i := 3) rfl).1
                      have hk3 : k < n5 := by omega
                      have HR2 := H.rd (i := 3) rfl
                      refine WP_region rfl ?_
                      refine s_val rfl (x_move (by conv => lhs; whnf)) ?_
                      refine s_val rfl (x_move (by conv => lhs; whnf)) ?_
                      refine s_val rfl (x_index (show SlT Try.prog 37 5 1 1 from ⟨by kernel_rfl, by kernel_rfl⟩) rfl rfl (by omega) (by omega) HR2) ?_
                      refine s_storeO rfl (by kernel_rfl) rfl (by conv => lhs; whnf) rfl H (i := 3) rfl (by omega) ?_
                      clear H HR2
                      intro w25 H
                      simp only [List.set_cons_zero, List.set_cons_succ] at H
                      refine s_end ?_
                      refine blockQ_n ?_
                      refine thenQ_n ?_
                      refine WP_region rfl ?_
                      refine s_val rfl (x_move (by conv => lhs; whnf)) ?_
                      refine s_val rfl (x_addi rfl rfl (by omega)) ?_
                      refine s_val rfl (x_assign (by conv => lhs; whnf)) ?_
                      refine s_end ?_
                      refine loopQ_A (k + 1) (by omega) ⟨rfl, rfl, rfl, rfl, rfl, rfl, rfl, trivial⟩ ⟨by omega, _, H⟩
                    · skip
                      refine WP_exit ?_
                      refine thenQ_e ?_
                      refine loopQ_e ?_
                      refine blockQ_hit ?_
                      have HF : ∃ x sh FR, RO w FR sh ∧ SmallV (i + 2) x.vals ∧ Sat w _ [DISK dd x sh, FR, REF y x] := ⟨x, sh, FR, hsh, hsm.le (by omega), H.re 0 3 [0, 1, 2, 3] (by kernel_rfl)⟩
                      refine blockQ_n ?_
                      exact thenQ_meet _ ⟨rfl, rfl, rfl, rfl, rfl, trivial⟩ HF
                  · skip
                    refine WP_r rfl ?_
                    refine s_val rfl (x_eql rfl rfl) ?_
                    refine s_val rfl (x_assign (by conv => lhs; whnf)) ?_
                    refine s_end ?_
                    refine WP_cond_dec rfl (fun h12 => ?_) (fun h12 => ?_)
                    · skip
                      refine WP_r rfl ?_
                      refine s_val rfl (x_move (by conv => lhs; whnf)) ?_
                      refine s_val rfl (x_field (off := 2) (by kernel_rfl) rfl) ?_
                      refine s_val rfl (x_load (by kernel_rfl) rfl (by first | exact hI.c3 | exact hI.c0 | exact hI.1 | exact hI.2 | exact H.cell (i := 3) rfl rfl)) ?_
                      refine s_call rfl (by kernel_rfl) (Limit_at H (i := 0) rfl (j := 0) rfl hsh b.n hbo.2.1) rfl rfl ?_
                      clear H
                      rintro r w26 ⟨rfl, H⟩
                      simp only [List.set_cons_zero] at H
                      refine s_end ?_
                      refine WP_region rfl ?_
                      refine s_val rfl (x_move (by conv => lhs; whnf)) ?_
                      refine s_val rfl (x_field (off := 2) (by kernel_rfl) rfl) ?_
                      refine s_val rfl (x_load (by kernel_rfl) rfl (by first | exact hI.c3 | exact hI.c0 | exact hI.1 | exact hI.2 | exact H.cell (i := 3) rfl rfl)) ?_
                      refine s_call rfl (by kernel_rfl) (rLimit_at H (i := 2) rfl b.n hbo.2.1) rfl rfl ?_
                      clear H
                      rintro r w27 ⟨rfl, H⟩
                      simp only [List.set_cons_zero, List.set_cons_succ] at H
                      have HF : ∃ x sh FR, RO w FR sh ∧ SmallV (i + 2) x.vals ∧ Sat w w27 [DISK dd x sh, FR, REF y x] := ⟨x.limit b.n, sh, FR, hsh, hsm.le (by omega), H.re 0 3 [0, 1, 2, 3] (by kernel_rfl)⟩
                      refine s_end ?_
                      refine blockQ_n ?_
                      exact thenQ_meet _ ⟨rfl, rfl, rfl, rfl, rfl, trivial⟩ HF
                    · skip
                      refine WP_r rfl ?_
                      refine s_val rfl (x_eql rfl rfl) ?_
                      refine s_val rfl (x_assign (by conv => lhs; whnf)) ?_
                      refine s_end ?_
                      refine WP_cond_dec rfl (fun h13 => ?_) (fun h13 => ?_)
                      · skip
                        obtain ⟨hpc, _, picks, hpk⟩ := hbo
                        refine WP_r rfl ?_
                        refine s_val rfl (x_move (by conv => lhs; whnf)) ?_
                        refine s_val rfl (x_field (off := 4) (by kernel_rfl) rfl) ?_
                        refine s_val rfl (x_load (by kernel_rfl) rfl (by first | exact hI.c3 | exact hI.c0 | exact hI.1 | exact hI.2 | exact H.cell (i := 3) rfl rfl)) ?_
                        refine s_call rfl (by kernel_rfl) (Ints_calls (hpk.ext H.ext) (by have := hpk.2.1; omega)) rfl rfl ?_
                        rintro r w28 ⟨a7, c7, rfl, H7⟩
                        replace H := H.more H7
                        clear H7
                        simp only [List.cons_append, List.nil_append] at H
                        refine s_call rfl (by kernel_rfl) (Crash_at H (i := 0) rfl (j := 0) rfl hsh (k := 3) rfl) rfl rfl ?_
                        clear H
                        rintro r w29 ⟨rfl, H⟩
                        simp only [List.set_cons_zero] at H
                        refine s_val rfl (x_eql_true rfl rfl) ?_
                        refine s_val rfl (x_assign (by conv => lhs; whnf)) ?_
                        refine s_end ?_
                        refine WP_region rfl ?_
                        refine s_val rfl (x_move (by conv => lhs; whnf)) ?_
                        refine s_val rfl (x_field (off := 4) (by kernel_rfl) rfl) ?_
                        refine s_val rfl (x_load (by kernel_rfl) rfl (by first | exact hI.c3 | exact hI.c0 | exact hI.1 | exact hI.2 | exact H.cell (i := 3) rfl rfl)) ?_
                        refine s_call rfl (by kernel_rfl) (rCrash_at H (i := 2) rfl (picks := picks) (fun w' e => hpk.ext e) (by omega)) rfl rfl ?_
                        clear H
                        rintro r w30 ⟨rfl, H⟩
                        simp only [List.set_cons_zero, List.set_cons_succ] at H
                        have HF : ∃ x sh FR, RO w FR sh ∧ SmallV (i + 2) x.vals ∧ Sat w w30 [DISK dd x sh, FR, REF y x] := ⟨_, sh, FR, hsh, crash_small (by omega) (hsm.le (by omega)) _, H.re 0 3 [0, 1, 2, 3, 4] (by kernel_rfl)⟩
                        refine s_end ?_
                        refine blockQ_n ?_
                        exact thenQ_meet _ ⟨rfl, rfl, rfl, rfl, rfl, trivial⟩ HF
                      · skip
                        refine WP_r rfl ?_
                        refine s_val rfl (x_eql rfl rfl) ?_
                        refine s_val rfl (x_assign (by conv => lhs; whnf)) ?_
                        refine s_end ?_
                        refine WP_cond_dec rfl (fun h14 => ?_) (fun h14 => ?_)
                        · skip
                          refine WP_r rfl ?_
                          refine s_val rfl (x_move (by conv => lhs; whnf)) ?_
                          refine s_call rfl (by kernel_rfl) (Clone_calls hsh (H.re 0 3 [0, 1, 2, 3] (by kernel_rfl))) rfl rfl ?_
                          clear H
                          rintro r w31 ⟨c, S, sh', rfl, hsh', H⟩
                          refine s_val rfl (x_assign (by conv => lhs; whnf)) ?_
                          refine s_end ?_
                          refine WP_seq ?_
                          refine WP_r rfl ?_
                          refine s_val rfl (x_move (by conv => lhs; whnf)) ?_
                          refine s_val rfl (x_eqlPtrNil (by kernel_rfl) rfl) ?_
                          refine s_end ?_
                          refine WP_cond_false rfl ?_
                          refine WP_skip ?_
                          refine thenQ_n ?_
                          refine WP_r rfl ?_
                          refine s_val rfl (x_move (by conv => lhs; whnf)) ?_
                          refine s_call rfl (by kernel_rfl) (full_calls 253) rfl rfl ?_
                          rintro r w32 ⟨a8, rfl, H8⟩
                          replace H := H.more H8
                          clear H8
                          simp only [List.cons_append, List.nil_append] at H
                          refine s_call rfl (by kernel_rfl) (Write_at H (i := 0) rfl (j := 2) rfl hsh' 0 (k := 3) rfl (fun l hl => by have := hsm l hl; omega)) rfl rfl ?_
                          clear H
                          rintro r w33 ⟨rfl, H⟩
                          simp only [List.set_cons_zero] at H
                          refine s_end ?_
                          refine WP_r rfl ?_
                          refine s_val rfl (x_move (by conv => lhs; whnf)) ?_
                          refine s_call rfl (by kernel_rfl) (Sync_at H (i := 0) rfl (j := 2) rfl hsh') rfl rfl ?_
                          clear H
                          rintro r w34 ⟨rfl, H⟩
                          simp only [List.set_cons_zero] at H
                          have HF : ∃ x sh FR, RO w FR sh ∧ SmallV (i + 2) x.vals ∧ Sat w w34 [DISK c x sh, FR, REF y x] := ⟨x, sh', _, hsh', hsm.le (by omega), H.re 0 3 [1, 3, 2, 0, 4] (by kernel_rfl)⟩
                          refine s_end ?_
                          refine WP_region rfl ?_
                          refine s_val rfl (x_move (by conv => lhs; whnf)) ?_
                          refine s_val rfl (x_assign (by conv => lhs; whnf)) ?_
                          refine s_end ?_
                          refine blockQ_n ?_
                          exact thenQ_meet _ ⟨rfl, rfl, rfl, rfl, rfl, trivial⟩ HF
                        · exact absurd (hp16 (by assumption)) (by omega) --done
          · skip
            rintro d2 ρ w35 ⟨x2, sh2, FR2, hsh2, hsm2, H2⟩
            clear H hsh hsm
            obtain ⟨va, vc, rows, R⟩ := REF.read H2 (i := 2) rfl
            refine WP_rd (fun w' => RefRd w' y x2 va vc rows) (.float 0 (.float 1 (.float 2 (.float 3 (.float 5 (.fork [(4, .fork [(6, .float 7 (.float 8 (.float 9 (.float 10 (.float 12 (.float 13 (.float 14 (.float 15 (.fork [(11, .float 16 (.float 17 (.float 18 (.float 19 (.float 21 (.float 22 (.float 23 (.float 24 (.float 25 (.fork [(20, .float 26 (.float 27 .done))]))))))))))])))))))))])])))))) (by kernel_rfl) (by kernel_rfl) (R.ext ⟨Nat.le_refl _, fun _ _ => rfl, rfl, rfl, rfl⟩) ?_
            replace H2 := H2.heapEq (w' := { w35 with drawn := w35.drawn + 1 }) rfl
            refine r_val rfl rfl (fun w hI => x_move (by conv => lhs; whnf)) ?_
            refine r_val rfl rfl (fun w hI => x_not rfl) ?_
            refine r_val rfl rfl (fun w hI => x_move (by conv => lhs; whnf)) ?_
            refine r_val rfl rfl (fun w hI => x_move (by conv => lhs; whnf)) ?_
            refine r_val rfl rfl (fun w hI => x_move (by conv => lhs; whnf)) ?_
            refine r_one rfl ?_
            refine s_call rfl (by kernel_rfl) (Pending_calls (H2.holdD (i := 0) rfl (j := 1) rfl hsh2)) rfl rfl ?_
            rintro r w36 ⟨rfl, e36⟩
            replace H2 := H2.heapEq e36
            replace R := R.ext ((Ext.refl _).heapEq e36)
            clear e36
            refine s_end ?_
            refine ⟨R, ?_⟩
            refine r_one rfl ?_
            refine s_call rfl (by kernel_rfl) (rPending_calls R) rfl rfl ?_
            rintro r w37 ⟨rfl, rfl⟩
            refine s_end ?_
            refine ⟨R, ?_⟩
            refine r_val rfl rfl (fun w hI => x_neq_same rfl rfl) ?_
            refine r_val rfl rfl (fun w hI => x_pick_false rfl (by conv => lhs; whnf)) ?_
            refine r_val rfl rfl (fun w hI => x_move (by conv => lhs; whnf)) ?_
            refine r_val rfl rfl (fun w hI => x_move (by conv => lhs; whnf)) ?_
            refine r_val rfl rfl (fun w hI => x_move (by conv => lhs; whnf)) ?_
            refine r_val rfl rfl (fun w hI => x_nilCheck rfl) ?_
            refine r_val rfl rfl (fun w hI => x_field (off := 3) (by kernel_rfl) rfl) ?_
            refine r_val rfl rfl (fun w hI => x_load (by kernel_rfl) rfl (by first | exact hI.c3 | exact hI.c0 | exact hI.1 | exact hI.2 | exact H.cell (i := 3) rfl rfl)) ?_
            refine r_one rfl ?_
            refine s_call rfl (by kernel_rfl) (Ops_calls (H2.holdD (i := 0) rfl (j := 1) rfl hsh2)) rfl rfl ?_
            rintro r w38 ⟨rfl, e38⟩
            replace H2 := H2.heapEq e38
            replace R := R.ext ((Ext.refl _).heapEq e38)
            clear e38
            refine s_end ?_
            refine ⟨R, ?_⟩
            refine r_val rfl rfl (fun w hI => x_neq_same rfl rfl) ?_
            refine r_val rfl rfl (fun w hI => x_pick_false rfl (by conv => lhs; whnf)) ?_
            refine r_val rfl rfl (fun w hI => x_move (by conv => lhs; whnf)) ?_
            refine r_val rfl rfl (fun w hI => x_move (by conv => lhs; whnf)) ?_
            refine r_val rfl rfl (fun w hI => x_move (by conv => lhs; whnf)) ?_
            refine r_val rfl rfl (fun w hI => x_nilCheck rfl) ?_
            refine r_val rfl rfl (fun w hI => x_field (off := 0) (by kernel_rfl) rfl) ?_
            refine r_val rfl rfl (fun w hI => x_load (by kernel_rfl) rfl (by first | exact hI.c3 | exact hI.c0 | exact hI.1 | exact hI.2 | exact H.cell (i := 3) rfl rfl)) ?_
            refine r_val rfl rfl (fun w hI => x_lenS (by kernel_rfl) rfl) ?_
            refine r_one rfl ?_
            refine s_call rfl (by kernel_rfl) (Sectors_calls (H2.holdD (i := 0) rfl (j := 1) rfl hsh2)) rfl rfl ?_
            rintro r w39 ⟨rfl, e39⟩
            replace H2 := H2.heapEq e39
            replace R := R.ext ((Ext.refl _).heapEq e39)
            clear e39
            refine s_end ?_
            refine ⟨R, ?_⟩
            refine r_val rfl rfl (fun w hI => x_neq_same rfl rfl) ?_
            refine r_val rfl rfl (fun w hI => x_pick_false rfl (by conv => lhs; whnf)) ?_
            refine r_done ?_
            refine WP_cond_false rfl ?_
            refine WP_skip ?_
            refine blockQ_n ?_
            refine thenQ_n ?_
            refine WP_region rfl ?_
            refine s_val rfl (x_move (by conv => lhs; whnf)) ?_
            refine s_val rfl (x_addi rfl rfl (by omega)) ?_
            refine s_val rfl (x_assign (by conv => lhs; whnf)) ?_
            refine s_end ?_
            refine loopQ_A (i + 1, d2) (by show 200 - (i + 1) < 200 - i; omega) ⟨rfl, rfl, rfl, rfl, trivial⟩ ⟨by show i + 1 ≤ 200; omega, by show i + 1 ≤ an; omega, x2, sh2, FR2, hsh2, hsm2, H2⟩
        · skip
          refine WP_exit ?_
          refine thenQ_e ?_
          refine loopQ_e ?_
          refine blockQ_hit ?_
          exact thenQ_meet dd ⟨rfl, rfl, trivial⟩ ⟨x, sh, FR, hsh, H⟩
      · skip
        refine s_out rfl ?_
        refine s_out rfl ?_
        refine s_val rfl (x_pick_false rfl (by conv => lhs; whnf)) ?_
        refine s_end ?_
        refine WP_cond_false rfl ?_
        refine WP_exit ?_
        refine thenQ_e ?_
        refine loopQ_e ?_
        refine blockQ_hit ?_
        exact thenQ_meet dd ⟨rfl, rfl, trivial⟩ ⟨x, sh, FR, hsh, H⟩
    · skip
      clear H hsm
      rintro d ρ w39 ⟨x, sh, FR, hsh, H⟩
      obtain ⟨va, vc, rows, R⟩ := REF.read H (i := 2) rfl
      have hbig := R.ok.big
      refine WP_r rfl ?_
      refine s_val rfl (x_move (by conv => lhs; whnf)) ?_
      refine s_call rfl (by kernel_rfl) (Image_calls (H.holdD (i := 0) rfl (j := 1) rfl hsh)) rfl rfl ?_
      rintro r w40 ⟨a6, c6, rfl, H6⟩
      replace H := H.more H6
      replace R := R.ext H6.ext
      clear H6
      simp only [List.cons_append, List.nil_append] at H
      refine s_val rfl (x_move (by conv => lhs; whnf)) ?_
      refine s_call rfl (by kernel_rfl) (rImage_calls R) rfl rfl ?_
      rintro r w41 ⟨a7, c7, rfl, H7⟩
      replace H := H.more H7
      replace R := R.ext H7.ext
      clear H7
      simp only [List.cons_append, List.nil_append] at H
      refine s_call rfl (by kernel_rfl) (SameBytes_calls (H.rd (i := 3) rfl) (H.rd (i := 4) rfl) (by omega)) rfl rfl ?_
      rintro r w42 ⟨rfl, e42⟩
      rw [decide_eq_true rfl]
      replace H := H.heapEq e42
      replace R := R.ext ((Ext.refl _).heapEq e42)
      clear e42
      refine s_val rfl (x_move (by conv => lhs; whnf)) ?_
      refine s_val rfl (x_move (by conv => lhs; whnf)) ?_
      refine s_call rfl (by kernel_rfl) (Sure_calls (H.holdD (i := 0) rfl (j := 1) rfl hsh)) rfl rfl ?_
      rintro r w43 ⟨a8, c8, rfl, H8⟩
      replace H := H.more H8
      replace R := R.ext H8.ext
      clear H8
      simp only [List.cons_append, List.nil_append] at H
      refine s_val rfl (x_move (by conv => lhs; whnf)) ?_
      refine s_call rfl (by kernel_rfl) (rSure_calls R) rfl rfl ?_
      rintro r w44 ⟨a9, c9, rfl, H9⟩
      replace H := H.more H9
      clear H9 R
      simp only [List.cons_append, List.nil_append] at H
      refine s_call rfl (by kernel_rfl) (SameBytes_calls (H.rd (i := 5) rfl) (H.rd (i := 6) rfl) (by omega)) rfl rfl ?_
      rintro r w45 ⟨rfl, e45⟩
      rw [decide_eq_true rfl]
      replace H := H.heapEq e45
      clear e45
      refine s_val rfl (x_pick_true rfl (by conv => lhs; whnf)) ?_
      refine s_val rfl (x_move (by conv => lhs; whnf)) ?_
      refine s_call rfl (by kernel_rfl) (works_calls) rfl rfl ?_
      rintro r w46 ⟨rfl, e46⟩
      refine s_val rfl (x_pick_true rfl (by conv => lhs; whnf)) ?_
      refine s_val rfl (x_assign (by conv => lhs; whnf)) ?_
      refine s_end ?_
      refine WP_ret ?_
      refine retQ_1 rfl (by conv => lhs; whnf) ?_
      exact ⟨rfl, H.ext.trans e46⟩
end Go.Sl
