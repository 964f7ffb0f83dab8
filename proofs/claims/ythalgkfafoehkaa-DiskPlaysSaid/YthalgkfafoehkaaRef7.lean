/- The document's own disk: New. -/
import Derived.Test.YthalgkfafoehkaaRef6
namespace Go.Sl
open Go.Proofs

theorem zRow : ∃ z, ZeroT Try.prog 72 z ∧ z.cells.size = 1 := ⟨.slice none 0 0, by unfold ZeroT; kernel_rfl, rfl⟩
theorem bys_zsect : bys zsect = List.replicate 256 (.int .u8 0) := by unfold bys zsect; rw [List.map_replicate]; rfl
theorem rNew_calls {w : World} (s : Int) : Calls Try.prog 23 #[.int .i64 s] w (Ret fun v w' => (((s < 1 ∨ 4096 < s) → v = .tuple #[.pointer none, .int .i64 2] ∧ Ext w w') ∧
    (¬ (s < 1 ∨ 4096 < s) → ∃ y, v = .tuple #[dp y, .int .i64 0] ∧ Sat w w' [REF y (D.zero s.toNat)]))) := by
  have H := Sat.nil (Ext.refl w)
  refine calls_of Try.func23 rfl rfl ?_
  refine WP_r rfl ?_
  refine s_val rfl (x_assign (by conv => lhs; whnf)) ?_
  refine s_val rfl (x_assign (by conv => lhs; whnf)) ?_
  refine s_end ?_
  refine WP_seq ?_
  refine WP_r rfl ?_
  refine s_val rfl (x_move (by conv => lhs; whnf)) ?_
  refine s_val rfl (x_lss rfl rfl) ?_
  refine s_dec rfl (x_move rfl) (fun h1 => ?_) (fun h1 => ?_)
  · skip
    refine s_out rfl ?_
    refine s_out rfl ?_
    refine s_val rfl (x_pick_true rfl (by conv => lhs; whnf)) ?_
    refine s_end ?_
    refine WP_cond_true rfl ?_
    refine WP_r rfl ?_
    refine s_val rfl (x_assign (by conv => lhs; whnf)) ?_
    refine s_val rfl (x_assign (by conv => lhs; whnf)) ?_
    refine s_end ?_
    refine WP_ret ?_
    refine thenQ_r ?_
    refine retQ_2 rfl (by conv => lhs; whnf) (by conv => lhs; whnf) ?_
    first
      | exact ⟨fun _ => ⟨rfl, Ext.refl w⟩, fun h => absurd (by omega) h⟩
  · skip
    refine s_val rfl (x_move (by conv => lhs; whnf)) ?_
    refine s_val rfl (x_gtr rfl rfl) ?_
    refine s_val rfl (x_pick_false rfl (by conv => lhs; whnf)) ?_
    refine s_end ?_
    refine WP_cond_dec rfl (fun h2 => ?_) (fun h2 => ?_)
    · skip
      refine WP_r rfl ?_
      refine s_val rfl (x_assign (by conv => lhs; whnf)) ?_
      refine s_val rfl (x_assign (by conv => lhs; whnf)) ?_
      refine s_end ?_
      refine WP_ret ?_
      refine thenQ_r ?_
      refine retQ_2 rfl (by conv => lhs; whnf) (by conv => lhs; whnf) ?_
      first
        | exact ⟨fun _ => ⟨rfl, Ext.refl w⟩, fun h => absurd (by omega) h⟩
    · skip
      refine WP_skip ?_
      refine thenQ_n ?_
      refine WP_r rfl ?_
      refine s_val rfl (x_build (show StT Try.prog 61 #[.slice none 0 0, .int .i64 0, .bool false, .int .i64 0] #[(0, 1), (1, 1), (2, 1), (3, 1)] from ⟨by kernel_rfl, by kernel_rfl⟩) rfl (show _ = some [_, _, _, _] from rfl)) ?_
      refine s_box rfl (by conv => lhs; whnf) H ?_
      clear H
      intro y w1 H1
      have H : Sat w w1 (rlist y ⟨List.replicate 0 [zsect], -1, false, 0⟩ none 0 [] []) := (H1.addNil 72 1).addEmps 2
      clear H1
      refine s_val rfl (x_assign (by conv => lhs; whnf)) ?_
      refine s_end ?_
      refine WP_seq ?_
      refine WP_r rfl ?_
      refine s_val rfl (x_assign (by conv => lhs; whnf)) ?_
      refine s_end ?_
      refine WP_block ?_
      refine WP_loopA (α := Nat) (fun k => [(0, .int .i64 s), (4, dp y), (5, .int .i64 k)]) (fun k w' => k ≤ s.toNat ∧ ∃ va vc rows pool, rows.map (fun r => r.es.map Fe.bs) = List.replicate k [zsect] ∧ (∀ r ∈ rows, ∀ e ∈ r.es, e ∈ pool) ∧ Sat w w' (rlist y ⟨List.replicate k [zsect], -1, false, 0⟩ va vc rows pool)) (fun k => s.toNat - k) 0 ⟨rfl, rfl, rfl, trivial⟩ ⟨Nat.zero_le _, none, 0, [], [], rfl, (fun r hr => by cases hr), H⟩ ?_
      clear H
      rintro k ρ w2 ⟨hk, va, vc, rows, pool, hv, hp, H⟩
      simp only [rlist] at H
      refine WP_seq ?_
      refine WP_r rfl ?_
      refine s_val rfl (x_move (by conv => lhs; whnf)) ?_
      refine s_val rfl (x_move (by conv => lhs; whnf)) ?_
      refine s_val rfl (x_lss rfl rfl) ?_
      refine s_end ?_
      refine WP_cond_dec rfl (fun h3 => ?_) (fun h3 => ?_)
      · skip
        refine WP_skip ?_
        refine thenQ_n ?_
        refine WP_seq ?_
        refine WP_block ?_
        have c0 := H.cell (i := 0) (off := 0) rfl rfl
        have hkl : (List.replicate k [zsect]).length = k := List.length_replicate ..
        refine WP_draw (fun _ => True) (.float 0 (.float 1 (.float 2 (.float 3 (.fork [(4, .fork [(5, .fork [(6, .fork [(7, .fork [(8, .float 9 (.float 10 (.fork [(11, .done)])))])])])]), (5, .fork [(4, .fork [(6, .fork [(7, .fork [(8, .float 9 (.float 10 (.fork [(11, .done)])))])])]), (6, .fork [(4, .fork [(7, .fork [(8, .float 9 (.float 10 (.fork [(11, .done)])))])]), (7, .fork [(4, .fork [(8, .float 9 (.float 10 (.fork [(11, .done)])))])])])])]))))) (by kernel_rfl) (by kernel_rfl) trivial ?_
        replace H := H.heapEq (w' := { w2 with drawn := w2.drawn + 1 }) rfl
        refine r_val rfl rfl (fun w hI => x_move (by conv => lhs; whnf)) ?_
        refine r_val rfl rfl (fun w hI => x_move (by conv => lhs; whnf)) ?_
        refine r_val rfl rfl (fun w hI => x_nilCheck rfl) ?_
        refine r_val rfl rfl (fun w hI => x_field (off := 0) (by kernel_rfl) rfl) ?_
        refine r_two rfl rfl ?_ ?_
        · skip
          refine s_val rfl (x_load (by kernel_rfl) rfl (by first | assumption | exact H.cell (i := 0) rfl rfl | exact H.cell (i := 1) rfl rfl | exact H.cell (i := 2) rfl rfl | exact H.cell (i := 3) rfl rfl | exact H.cell (i := 4) rfl rfl | exact H.cell (i := 5) rfl rfl)) ?_
          refine s_end ?_
          refine ⟨trivial, ?_⟩
          refine r_one rfl ?_
          refine s_makeSlice (n := 256) (c := 256) rfl (show SlT Try.prog 37 5 1 1 from ⟨by kernel_rfl, by kernel_rfl⟩) (show ZeroT Try.prog 5 (.int .u8 0) by unfold ZeroT; kernel_rfl) rfl rfl rfl (by omega) (by omega) (by omega) (by omega) H ?_
          clear H
          intro b3 w3 H1
          have H := H1.toSlo (i := 4) (n := 256) (cap := 256) (sz := 1) (cs := bys zsect) rfl (Nat.le_refl _) (by rw [List.size_toArray, List.length_replicate]; rfl) (by rw [bys_zsect, List.take_of_length_le (by rw [List.length_replicate]; decide)]; rfl)
          clear H1
          simp only [List.cons_append, List.nil_append, List.set_cons_zero, List.set_cons_succ] at H
          refine s_end ?_
          refine ⟨trivial, ?_⟩
          refine r_one rfl ?_
          refine s_buildSlice (vs := [.slice (some ⟨b3, 0, none⟩) 256 256]) rfl (show SlT Try.prog 72 37 1 24 from ⟨by kernel_rfl, by kernel_rfl⟩) zSl rfl rfl (by simp [Value.cells]) (by decide) H ?_
          clear H
          intro b4 w4 H
          simp only [List.cons_append, List.nil_append] at H
          refine s_end ?_
          refine ⟨trivial, ?_⟩
          refine r_one rfl ?_
          refine s_buildSlice (vs := [.slice (some ⟨b4, 0, none⟩) 1 1]) rfl (show SlT Try.prog 59 72 1 24 from ⟨by kernel_rfl, by kernel_rfl⟩) zRow rfl rfl (by simp [Value.cells]) (by decide) H ?_
          clear H
          intro b5 w5 H
          simp only [List.cons_append, List.nil_append] at H
          refine s_end ?_
          refine ⟨trivial, ?_⟩
          refine r_one rfl ?_
          refine s_append rfl (show SlT Try.prog 59 72 1 24 from ⟨by kernel_rfl, by kernel_rfl⟩) zRow ⟨_, (show SlT Try.prog 59 72 1 24 from ⟨by kernel_rfl, by kernel_rfl⟩).und⟩ rfl rfl H (i := 1) rfl (H.rd (i := 6) rfl) (fun u hu => by simp [Value.cells] at hu; subst hu; rfl) (by rw [hkl]; omega) (by rw [hkl]; omega) ?_
          clear H
          intro a6 cap6 w6 H
          simp only [List.set_cons_zero, List.set_cons_succ] at H
          refine s_end ?_
          refine ⟨trivial, ?_⟩
          refine r_val rfl rfl (fun w hI => x_nilCheck rfl) ?_
          refine r_val rfl rfl (fun w hI => x_field (off := 0) (by kernel_rfl) rfl) ?_
          refine r_one rfl ?_
          refine s_store rfl (by kernel_rfl) rfl (by conv => lhs; whnf) rfl H (i := 0) rfl rfl ?_
          clear H; intro _ H
          simp only [List.set_cons_zero, List.set_cons_succ, List.setIfInBounds_toArray] at H
          refine s_end ?_
          refine ⟨trivial, ?_⟩
          refine r_done ?_
          refine blockQ_n ?_
          refine thenQ_n ?_
          refine WP_region rfl ?_
          refine s_val rfl (x_move (by conv => lhs; whnf)) ?_
          refine s_val rfl (x_addi rfl rfl (by omega)) ?_
          refine s_val rfl (x_assign (by conv => lhs; whnf)) ?_
          refine s_end ?_
          obtain ⟨e, he⟩ : ∃ e : Fe, e = Fe.mk 0 0 (some ⟨b3, 0, none⟩) 256 zsect := ⟨_, rfl⟩
          obtain ⟨q, hq⟩ : ∃ q : Rw, q = Rw.mk (some ⟨b4, 0, none⟩) 1 [e] := ⟨_, rfl⟩
          have H1 := H.re 0 6 [0, 1, 2, 3, 4, 5, 6] (by kernel_rfl)
          have H2 := Sat.absorb (L := [_, _, stars (rows.map Rw.own), _, _]) (i := 2) (p := q.own) (by rw [hq, he]; exact H1) rfl
          simp only [List.set_cons_zero, List.set_cons_succ] at H2
          have H3 := Sat.absorb (L := [_, _, _, stars (pool.map Fe.own)]) (i := 3) (p := e.own) (by rw [he]; exact H2) rfl
          simp only [List.set_cons_zero, List.set_cons_succ] at H3
          refine loopQ_A (k + 1) (by omega) ⟨rfl, rfl, rfl, trivial⟩ ⟨by omega, a6, cap6, rows ++ [q], pool ++ [e], ?_, ?_, ?_⟩
          · rw [List.map_append, hv, List.replicate_succ', hq, he]; rfl
          · intro r hr e' he'
            rcases List.mem_append.1 hr with h | h
            · exact List.mem_append_left _ (hp r h e' he')
            · simp at h; rw [h, hq] at he'
              exact List.mem_append_right _ he'
          · unfold rlist
            rw [List.map_append (f := Rw.own), List.map_append (f := Rw.val), List.map_append (f := Fe.own), show (D.mk (List.replicate (k + 1) [zsect]) (-1) false 0).vals.length = (List.replicate k [zsect]).length + 1 by show (List.replicate _ _).length = _; rw [List.length_replicate, List.length_replicate]]
            rw [show [q].map Rw.val = [.slice (some ⟨b4, 0, none⟩) 1 1] by rw [hq]; rfl]
            exact H3
        · skip
          refine s_makeSlice (n := 256) (c := 256) rfl (show SlT Try.prog 37 5 1 1 from ⟨by kernel_rfl, by kernel_rfl⟩) (show ZeroT Try.prog 5 (.int .u8 0) by unfold ZeroT; kernel_rfl) rfl rfl rfl (by omega) (by omega) (by omega) (by omega) H ?_
          clear H
          intro b3 w3 H1
          have H := H1.toSlo (i := 4) (n := 256) (cap := 256) (sz := 1) (cs := bys zsect) rfl (Nat.le_refl _) (by rw [List.size_toArray, List.length_replicate]; rfl) (by rw [bys_zsect, List.take_of_length_le (by rw [List.length_replicate]; decide)]; rfl)
          clear H1
          simp only [List.cons_append, List.nil_append, List.set_cons_zero, List.set_cons_succ] at H
          refine s_end ?_
          refine ⟨trivial, ?_⟩
          refine r_two rfl rfl ?_ ?_
          · skip
            refine s_val rfl (x_load (by kernel_rfl) rfl (by first | assumption | exact H.cell (i := 0) rfl rfl | exact H.cell (i := 1) rfl rfl | exact H.cell (i := 2) rfl rfl | exact H.cell (i := 3) rfl rfl | exact H.cell (i := 4) rfl rfl | exact H.cell (i := 5) rfl rfl)) ?_
            refine s_end ?_
            refine ⟨trivial, ?_⟩
            refine r_one rfl ?_
            refine s_buildSlice (vs := [.slice (some ⟨b3, 0, none⟩) 256 256]) rfl (show SlT Try.prog 72 37 1 24 from ⟨by kernel_rfl, by kernel_rfl⟩) zSl rfl rfl (by simp [Value.cells]) (by decide) H ?_
            clear H
            intro b4 w4 H
            simp only [List.cons_append, List.nil_append] at H
            refine s_end ?_
            refine ⟨trivial, ?_⟩
            refine r_one rfl ?_
            refine s_buildSlice (vs := [.slice (some ⟨b4, 0, none⟩) 1 1]) rfl (show SlT Try.prog 59 72 1 24 from ⟨by kernel_rfl, by kernel_rfl⟩) zRow rfl rfl (by simp [Value.cells]) (by decide) H ?_
            clear H
            intro b5 w5 H
            simp only [List.cons_append, List.nil_append] at H
            refine s_end ?_
            refine ⟨trivial, ?_⟩
            refine r_one rfl ?_
            refine s_append rfl (show SlT Try.prog 59 72 1 24 from ⟨by kernel_rfl, by kernel_rfl⟩) zRow ⟨_, (show SlT Try.prog 59 72 1 24 from ⟨by kernel_rfl, by kernel_rfl⟩).und⟩ rfl rfl H (i := 1) rfl (H.rd (i := 6) rfl) (fun u hu => by simp [Value.cells] at hu; subst hu; rfl) (by rw [hkl]; omega) (by rw [hkl]; omega) ?_
            clear H
            intro a6 cap6 w6 H
            simp only [List.set_cons_zero, List.set_cons_succ] at H
            refine s_end ?_
            refine ⟨trivial, ?_⟩
            refine r_val rfl rfl (fun w hI => x_nilCheck rfl) ?_
            refine r_val rfl rfl (fun w hI => x_field (off := 0) (by kernel_rfl) rfl) ?_
            refine r_one rfl ?_
            refine s_store rfl (by kernel_rfl) rfl (by conv => lhs; whnf) rfl H (i := 0) rfl rfl ?_
            clear H; intro _ H
            simp only [List.set_cons_zero, List.set_cons_succ, List.setIfInBounds_toArray] at H
            refine s_end ?_
            refine ⟨trivial, ?_⟩
            refine r_done ?_
            refine blockQ_n ?_
            refine thenQ_n ?_
            refine WP_region rfl ?_
            refine s_val rfl (x_move (by conv => lhs; whnf)) ?_
            refine s_val rfl (x_addi rfl rfl (by omega)) ?_
            refine s_val rfl (x_assign (by conv => lhs; whnf)) ?_
            refine s_end ?_
            obtain ⟨e, he⟩ : ∃ e : Fe, e = Fe.mk 0 0 (some ⟨b3, 0, none⟩) 256 zsect := ⟨_, rfl⟩
            obtain ⟨q, hq⟩ : ∃ q : Rw, q = Rw.mk (some ⟨b4, 0, none⟩) 1 [e] := ⟨_, rfl⟩
            have H1 := H.re 0 6 [0, 1, 2, 3, 4, 5, 6] (by kernel_rfl)
            have H2 := Sat.absorb (L := [_, _, stars (rows.map Rw.own), _, _]) (i := 2) (p := q.own) (by rw [hq, he]; exact H1) rfl
            simp only [List.set_cons_zero, List.set_cons_succ] at H2
            have H3 := Sat.absorb (L := [_, _, _, stars (pool.map Fe.own)]) (i := 3) (p := e.own) (by rw [he]; exact H2) rfl
            simp only [List.set_cons_zero, List.set_cons_succ] at H3
            refine loopQ_A (k + 1) (by omega) ⟨rfl, rfl, rfl, trivial⟩ ⟨by omega, a6, cap6, rows ++ [q], pool ++ [e], ?_, ?_, ?_⟩
            · rw [List.map_append, hv, List.replicate_succ', hq, he]; rfl
            · intro r hr e' he'
              rcases List.mem_append.1 hr with h | h
              · exact List.mem_append_left _ (hp r h e' he')
              · simp at h; rw [h, hq] at he'
                exact List.mem_append_right _ he'
            · unfold rlist
              rw [List.map_append (f := Rw.own), List.map_append (f := Rw.val), List.map_append (f := Fe.own), show (D.mk (List.replicate (k + 1) [zsect]) (-1) false 0).vals.length = (List.replicate k [zsect]).length + 1 by show (List.replicate _ _).length = _; rw [List.length_replicate, List.length_replicate]]
              rw [show [q].map Rw.val = [.slice (some ⟨b4, 0, none⟩) 1 1] by rw [hq]; rfl]
              exact H3
          · skip
            refine s_buildSlice (vs := [.slice (some ⟨b3, 0, none⟩) 256 256]) rfl (show SlT Try.prog 72 37 1 24 from ⟨by kernel_rfl, by kernel_rfl⟩) zSl rfl rfl (by simp [Value.cells]) (by decide) H ?_
            clear H
            intro b4 w4 H
            simp only [List.cons_append, List.nil_append] at H
            refine s_end ?_
            refine ⟨trivial, ?_⟩
            refine r_two rfl rfl ?_ ?_
            · skip
              refine s_val rfl (x_load (by kernel_rfl) rfl (by first | assumption | exact H.cell (i := 0) rfl rfl | exact H.cell (i := 1) rfl rfl | exact H.cell (i := 2) rfl rfl | exact H.cell (i := 3) rfl rfl | exact H.cell (i := 4) rfl rfl | exact H.cell (i := 5) rfl rfl)) ?_
              refine s_end ?_
              refine ⟨trivial, ?_⟩
              refine r_one rfl ?_
              refine s_buildSlice (vs := [.slice (some ⟨b4, 0, none⟩) 1 1]) rfl (show SlT Try.prog 59 72 1 24 from ⟨by kernel_rfl, by kernel_rfl⟩) zRow rfl rfl (by simp [Value.cells]) (by decide) H ?_
              clear H
              intro b5 w5 H
              simp only [List.cons_append, List.nil_append] at H
              refine s_end ?_
              refine ⟨trivial, ?_⟩
              refine r_one rfl ?_
              refine s_append rfl (show SlT Try.prog 59 72 1 24 from ⟨by kernel_rfl, by kernel_rfl⟩) zRow ⟨_, (show SlT Try.prog 59 72 1 24 from ⟨by kernel_rfl, by kernel_rfl⟩).und⟩ rfl rfl H (i := 1) rfl (H.rd (i := 6) rfl) (fun u hu => by simp [Value.cells] at hu; subst hu; rfl) (by rw [hkl]; omega) (by rw [hkl]; omega) ?_
              clear H
              intro a6 cap6 w6 H
              simp only [List.set_cons_zero, List.set_cons_succ] at H
              refine s_end ?_
              refine ⟨trivial, ?_⟩
              refine r_val rfl rfl (fun w hI => x_nilCheck rfl) ?_
              refine r_val rfl rfl (fun w hI => x_field (off := 0) (by kernel_rfl) rfl) ?_
              refine r_one rfl ?_
              refine s_store rfl (by kernel_rfl) rfl (by conv => lhs; whnf) rfl H (i := 0) rfl rfl ?_
              clear H; intro _ H
              simp only [List.set_cons_zero, List.set_cons_succ, List.setIfInBounds_toArray] at H
              refine s_end ?_
              refine ⟨trivial, ?_⟩
              refine r_done ?_
              refine blockQ_n ?_
              refine thenQ_n ?_
              refine WP_region rfl ?_
              refine s_val rfl (x_move (by conv => lhs; whnf)) ?_
              refine s_val rfl (x_addi rfl rfl (by omega)) ?_
              refine s_val rfl (x_assign (by conv => lhs; whnf)) ?_
              refine s_end ?_
              obtain ⟨e, he⟩ : ∃ e : Fe, e = Fe.mk 0 0 (some ⟨b3, 0, none⟩) 256 zsect := ⟨_, rfl⟩
              obtain ⟨q, hq⟩ : ∃ q : Rw, q = Rw.mk (some ⟨b4, 0, none⟩) 1 [e] := ⟨_, rfl⟩
              have H1 := H.re 0 6 [0, 1, 2, 3, 4, 5, 6] (by kernel_rfl)
              have H2 := Sat.absorb (L := [_, _, stars (rows.map Rw.own), _, _]) (i := 2) (p := q.own) (by rw [hq, he]; exact H1) rfl
              simp only [List.set_cons_zero, List.set_cons_succ] at H2
              have H3 := Sat.absorb (L := [_, _, _, stars (pool.map Fe.own)]) (i := 3) (p := e.own) (by rw [he]; exact H2) rfl
              simp only [List.set_cons_zero, List.set_cons_succ] at H3
              refine loopQ_A (k + 1) (by omega) ⟨rfl, rfl, rfl, trivial⟩ ⟨by omega, a6, cap6, rows ++ [q], pool ++ [e], ?_, ?_, ?_⟩
              · rw [List.map_append, hv, List.replicate_succ', hq, he]; rfl
              · intro r hr e' he'
                rcases List.mem_append.1 hr with h | h
                · exact List.mem_append_left _ (hp r h e' he')
                · simp at h; rw [h, hq] at he'
                  exact List.mem_append_right _ he'
              · unfold rlist
                rw [List.map_append (f := Rw.own), List.map_append (f := Rw.val), List.map_append (f := Fe.own), show (D.mk (List.replicate (k + 1) [zsect]) (-1) false 0).vals.length = (List.replicate k [zsect]).length + 1 by show (List.replicate _ _).length = _; rw [List.length_replicate, List.length_replicate]]
                rw [show [q].map Rw.val = [.slice (some ⟨b4, 0, none⟩) 1 1] by rw [hq]; rfl]
                exact H3
            · skip
              refine s_buildSlice (vs := [.slice (some ⟨b4, 0, none⟩) 1 1]) rfl (show SlT Try.prog 59 72 1 24 from ⟨by kernel_rfl, by kernel_rfl⟩) zRow rfl rfl (by simp [Value.cells]) (by decide) H ?_
              clear H
              intro b5 w5 H
              simp only [List.cons_append, List.nil_append] at H
              refine s_end ?_
              refine ⟨trivial, ?_⟩
              refine r_one rfl ?_
              refine s_val rfl (x_load (by kernel_rfl) rfl (by first | assumption | exact H.cell (i := 0) rfl rfl | exact H.cell (i := 1) rfl rfl | exact H.cell (i := 2) rfl rfl | exact H.cell (i := 3) rfl rfl | exact H.cell (i := 4) rfl rfl | exact H.cell (i := 5) rfl rfl)) ?_
              refine s_end ?_
              refine ⟨trivial, ?_⟩
              refine r_one rfl ?_
              refine s_append rfl (show SlT Try.prog 59 72 1 24 from ⟨by kernel_rfl, by kernel_rfl⟩) zRow ⟨_, (show SlT Try.prog 59 72 1 24 from ⟨by kernel_rfl, by kernel_rfl⟩).und⟩ rfl rfl H (i := 1) rfl (H.rd (i := 6) rfl) (fun u hu => by simp [Value.cells] at hu; subst hu; rfl) (by rw [hkl]; omega) (by rw [hkl]; omega) ?_
              clear H
              intro a6 cap6 w6 H
              simp only [List.set_cons_zero, List.set_cons_succ] at H
              refine s_end ?_
              refine ⟨trivial, ?_⟩
              refine r_val rfl rfl (fun w hI => x_nilCheck rfl) ?_
              refine r_val rfl rfl (fun w hI => x_field (off := 0) (by kernel_rfl) rfl) ?_
              refine r_one rfl ?_
              refine s_store rfl (by kernel_rfl) rfl (by conv => lhs; whnf) rfl H (i := 0) rfl rfl ?_
              clear H; intro _ H
              simp only [List.set_cons_zero, List.set_cons_succ, List.setIfInBounds_toArray] at H
              refine s_end ?_
              refine ⟨trivial, ?_⟩
              refine r_done ?_
              refine blockQ_n ?_
              refine thenQ_n ?_
              refine WP_region rfl ?_
              refine s_val rfl (x_move (by conv => lhs; whnf)) ?_
              refine s_val rfl (x_addi rfl rfl (by omega)) ?_
              refine s_val rfl (x_assign (by conv => lhs; whnf)) ?_
              refine s_end ?_
              obtain ⟨e, he⟩ : ∃ e : Fe, e = Fe.mk 0 0 (some ⟨b3, 0, none⟩) 256 zsect := ⟨_, rfl⟩
              obtain ⟨q, hq⟩ : ∃ q : Rw, q = Rw.mk (some ⟨b4, 0, none⟩) 1 [e] := ⟨_, rfl⟩
              have H1 := H.re 0 6 [0, 1, 2, 3, 4, 5, 6] (by kernel_rfl)
              have H2 := Sat.absorb (L := [_, _, stars (rows.map Rw.own), _, _]) (i := 2) (p := q.own) (by rw [hq, he]; exact H1) rfl
              simp only [List.set_cons_zero, List.set_cons_succ] at H2
              have H3 := Sat.absorb (L := [_, _, _, stars (pool.map Fe.own)]) (i := 3) (p := e.own) (by rw [he]; exact H2) rfl
              simp only [List.set_cons_zero, List.set_cons_succ] at H3
              refine loopQ_A (k + 1) (by omega) ⟨rfl, rfl, rfl, trivial⟩ ⟨by omega, a6, cap6, rows ++ [q], pool ++ [e], ?_, ?_, ?_⟩
              · rw [List.map_append, hv, List.replicate_succ', hq, he]; rfl
              · intro r hr e' he'
                rcases List.mem_append.1 hr with h | h
                · exact List.mem_append_left _ (hp r h e' he')
                · simp at h; rw [h, hq] at he'
                  exact List.mem_append_right _ he'
              · unfold rlist
                rw [List.map_append (f := Rw.own), List.map_append (f := Rw.val), List.map_append (f := Fe.own), show (D.mk (List.replicate (k + 1) [zsect]) (-1) false 0).vals.length = (List.replicate k [zsect]).length + 1 by show (List.replicate _ _).length = _; rw [List.length_replicate, List.length_replicate]]
                rw [show [q].map Rw.val = [.slice (some ⟨b4, 0, none⟩) 1 1] by rw [hq]; rfl]
                exact H3
      · skip
        refine WP_exit ?_
        refine thenQ_e ?_
        refine loopQ_e ?_
        refine blockQ_hit ?_
        refine thenQ_n ?_
        refine WP_r rfl ?_
        refine s_val rfl (x_move (by conv => lhs; whnf)) ?_
        refine s_val rfl (x_assign (by conv => lhs; whnf)) ?_
        refine s_val rfl (x_assign (by conv => lhs; whnf)) ?_
        refine s_end ?_
        refine WP_ret ?_
        refine retQ_2 rfl (by conv => lhs; whnf) (by conv => lhs; whnf) ?_
        refine ⟨fun h => absurd h (by omega), fun _ => ⟨y, rfl, ?_⟩⟩
        have hks : k = s.toNat := by omega
        subst hks
        have hz : ∀ b ∈ List.replicate s.toNat zsect, b.length = 256 := fun b hb => by rw [(List.mem_replicate.1 hb).2]; exact zsect_len
        have hok : (D.zero s.toNat).Ok := by rw [zero_eq]; exact single_ok (by rw [List.length_replicate]; omega) (by rw [List.length_replicate]; omega) hz
        exact REF.closeL (L := []) hok hv hp H
end Go.Sl
