/- The document's own disk: Write, Read. -/
import Derived.Test.YthalgkfafoehkaaRef1
namespace Go.Sl
open Go.Proofs

theorem zSl : ∃ z, ZeroT Try.prog 37 z ∧ z.cells.size = 1 := ⟨.slice none 0 0, by unfold ZeroT; kernel_rfl, rfl⟩
theorem rows_at {x : D} {rows : List Rw} (hv : rows.map (fun r => r.es.map Fe.bs) = x.vals) {i : Nat} (hi : i < x.vals.length) : ∃ r, rows[i]? = some r ∧ x.vals[i]? = some (r.es.map Fe.bs) := by
  have hl : rows.length = x.vals.length := by rw [← hv, List.length_map]
  refine ⟨rows[i]'(by omega), List.getElem?_eq_getElem _, ?_⟩
  rw [← hv, List.getElem?_map, List.getElem?_eq_getElem (by omega)]; rfl
theorem rWrite_calls {w0 w : World} {y : Nat} {x : D} {F : HP} (H : Sat w0 w [REF y x, F]) (at_ : Int) {a : Option Addr} {n cap : Nat} {bs : List UInt8}
    (hR : ∀ w', Sat w0 w' [F] → Rd w' a n cap 1 (bys bs)) (hc : ∀ l ∈ x.vals, l.length < 1000000000) :
    Calls Try.prog 27 #[dp y, .int .i64 at_, .slice a n cap] w (Ret fun v w' => v = .int .i64 (x.write at_ bs).1 ∧ Sat w0 w' [REF y (x.write at_ bs).2, F]) := by
  have hn : n = bs.length := by
    have := (hR w (H.drop 0)).1
    rw [bys_length] at this; omega
  have ⟨va, vc, rows, pool, hok, hv, hp, H0⟩ := REF.openL H
  simp only [rlist, List.cons_append, List.nil_append] at H0
  have c0 := H0.cell (i := 0) (off := 0) rfl rfl
  have hbig := hok.big
  clear H0
  refine calls_of Try.func27 rfl rfl ?_
  refine WP_r rfl ?_
  refine s_val rfl (x_assign (by conv => lhs; whnf)) ?_
  refine s_end ?_
  refine WP_seq ?_
  refine WP_r rfl ?_
  refine s_val rfl (x_move (by conv => lhs; whnf)) ?_
  refine s_val rfl (x_lss rfl rfl) ?_
  refine s_dec rfl (x_move rfl) (fun h1 => ?_) (fun h1 => ?_)
  · skip
    refine s_out rfl ?_
    refine s_out rfl ?_
    refine s_out rfl ?_
    refine s_out rfl ?_
    refine s_out rfl ?_
    refine s_out rfl ?_
    refine s_out rfl ?_
    refine s_val rfl (x_pick_true rfl (by conv => lhs; whnf)) ?_
    refine s_val rfl (x_move (by conv => lhs; whnf)) ?_
    refine s_out rfl ?_
    refine s_out rfl ?_
    refine s_out rfl ?_
    refine s_val rfl (x_pick_true rfl (by conv => lhs; whnf)) ?_
    refine s_end ?_
    refine WP_cond_true rfl ?_
    refine WP_r rfl ?_
    refine s_val rfl (x_assign (by conv => lhs; whnf)) ?_
    refine s_end ?_
    refine WP_ret ?_
    refine thenQ_r ?_
    refine retQ_1 rfl (by conv => lhs; whnf) ?_
    have hcase : (at_ < 0 ∨ (x.vals.length : Int) ≤ at_) ∨ (¬ (at_ < 0 ∨ (x.vals.length : Int) ≤ at_) ∧ bs.length ≠ 256) := by omega
    unfold D.write
    rcases hcase with h | ⟨h, h'⟩
    · rw [if_pos h]; exact ⟨rfl, H⟩
    · rw [if_neg h, if_pos h']; exact ⟨rfl, H⟩
  · skip
    refine s_val rfl (x_move (by conv => lhs; whnf)) ?_
    refine s_val rfl (x_move (by conv => lhs; whnf)) ?_
    refine s_val rfl (x_nilCheck rfl) ?_
    refine s_val rfl (x_field (off := 0) (by kernel_rfl) rfl) ?_
    refine s_val rfl (x_load (by kernel_rfl) rfl (by first | exact c0 | exact hI.1)) ?_
    refine s_val rfl (x_lenS (by kernel_rfl) rfl) ?_
    refine s_val rfl (x_geq rfl rfl) ?_
    refine s_val rfl (x_pick_false rfl (by conv => lhs; whnf)) ?_
    refine s_dec rfl (x_move rfl) (fun h2 => ?_) (fun h2 => ?_)
    · skip
      refine s_out rfl ?_
      refine s_out rfl ?_
      refine s_out rfl ?_
      refine s_val rfl (x_pick_true rfl (by conv => lhs; whnf)) ?_
      refine s_end ?_
      refine WP_cond_true rfl ?_
      refine WP_r rfl ?_
      refine s_val rfl (x_assign (by conv => lhs; whnf)) ?_
      refine s_end ?_
      refine WP_ret ?_
      refine thenQ_r ?_
      refine retQ_1 rfl (by conv => lhs; whnf) ?_
      have hcase : (at_ < 0 ∨ (x.vals.length : Int) ≤ at_) ∨ (¬ (at_ < 0 ∨ (x.vals.length : Int) ≤ at_) ∧ bs.length ≠ 256) := by omega
      unfold D.write
      rcases hcase with h | ⟨h, h'⟩
      · rw [if_pos h]; exact ⟨rfl, H⟩
      · rw [if_neg h, if_pos h']; exact ⟨rfl, H⟩
    · skip
      refine s_val rfl (x_move (by conv => lhs; whnf)) ?_
      refine s_val rfl (x_lenS (by kernel_rfl) rfl) ?_
      refine s_val rfl (x_neq rfl rfl) ?_
      refine s_val rfl (x_pick_false rfl (by conv => lhs; whnf)) ?_
      refine s_end ?_
      refine WP_cond_dec rfl (fun h3 => ?_) (fun h3 => ?_)
      · skip
        refine WP_r rfl ?_
        refine s_val rfl (x_assign (by conv => lhs; whnf)) ?_
        refine s_end ?_
        refine WP_ret ?_
        refine thenQ_r ?_
        refine retQ_1 rfl (by conv => lhs; whnf) ?_
        have hcase : (at_ < 0 ∨ (x.vals.length : Int) ≤ at_) ∨ (¬ (at_ < 0 ∨ (x.vals.length : Int) ≤ at_) ∧ bs.length ≠ 256) := by omega
        unfold D.write
        rcases hcase with h | ⟨h, h'⟩
        · rw [if_pos h]; exact ⟨rfl, H⟩
        · rw [if_neg h, if_pos h']; exact ⟨rfl, H⟩
      · skip
        refine WP_skip ?_
        refine thenQ_n ?_
        refine WP_seq ?_
        refine WP_r rfl ?_
        refine s_val rfl (x_move (by conv => lhs; whnf)) ?_
        refine s_call rfl (by kernel_rfl) (rtake_calls H) rfl rfl ?_
        clear H c0 hv hp hok
        rintro v w2 ⟨rfl, H⟩
        refine s_val rfl (x_not rfl) ?_
        refine s_end ?_
        refine WP_cond rfl (fun h4 => ?_) (fun h4 => ?_)
        · skip
          refine WP_r rfl ?_
          refine s_val rfl (x_assign (by conv => lhs; whnf)) ?_
          refine s_end ?_
          refine WP_ret ?_
          refine thenQ_r ?_
          refine retQ_1 rfl (by conv => lhs; whnf) ?_
          have ht : x.take.1 = false := by simpa using h4
          unfold D.write; rw [if_neg (by omega), if_neg (by omega), if_pos ht]
          exact ⟨rfl, H⟩
        · skip
          refine WP_skip ?_
          refine thenQ_n ?_
          have ht : x.take.1 = true := by simpa using h4
          obtain ⟨i, rfl⟩ : ∃ i : Nat, at_ = i := ⟨at_.toNat, by omega⟩
          obtain ⟨va, vc, rows, pool, hok, hv, hp, H⟩ := REF.openL H
          simp only [rlist, List.cons_append, List.nil_append] at H
          have htv := take_vals x
          have hil : i < x.take.2.vals.length := by rw [htv]; omega
          obtain ⟨r, hr, hl⟩ := rows_at hv hil
          have hrl : r.es.length < 1000000000 := by
            have := hc (r.es.map Fe.bs) (by rw [← htv]; exact List.mem_of_getElem? hl)
            rwa [List.length_map] at this
          have hel : ∀ j, j = i → (rows.map Rw.val)[j]? = some r.val := fun j hj => by subst hj; rw [List.getElem?_map, hr]; rfl
          have c0 := H.cell (i := 0) (off := 0) rfl rfl
          have HV := H.rd (i := 1) rfl
          refine WP_rd (fun w => w.cell? ⟨y, 0, none⟩ = some (.slice va x.take.2.vals.length vc) ∧ ∃ cs, Rd w va x.take.2.vals.length vc 1 cs) (.float 0 (.float 1 (.float 2 (.float 3 (.float 4 (.float 6 (.float 7 (.float 8 (.float 9 (.float 10 (.float 11 (.float 14 (.fork [(5, .fork [(12, .fork [(13, .fork [(15, .fork [(16, .fork [(17, .float 18 (.fork [(19, .done)]))])])])])]), (12, .fork [(5, .fork [(13, .fork [(15, .fork [(16, .fork [(17, .float 18 (.fork [(19, .done)]))])])])])])]))))))))))))) (by kernel_rfl) (by kernel_rfl) ⟨c0, _, HV⟩ ?_
          replace H := H.heapEq (w' := { w2 with drawn := w2.drawn + 1 }) rfl
          refine r_val rfl rfl (fun w hI => x_move (by conv => lhs; whnf)) ?_
          refine r_val rfl rfl (fun w hI => x_nilCheck rfl) ?_
          refine r_val rfl rfl (fun w hI => x_field (off := 0) (by kernel_rfl) rfl) ?_
          refine r_val rfl rfl (fun w hI => x_load (by kernel_rfl) rfl (by first | exact c0 | exact hI.1)) ?_
          refine r_val rfl rfl (fun w hI => x_move (by conv => lhs; whnf)) ?_
          refine r_val rfl rfl (fun w hI => x_move (by conv => lhs; whnf)) ?_
          refine r_val rfl rfl (fun w hI => x_nilCheck rfl) ?_
          refine r_val rfl rfl (fun w hI => x_field (off := 0) (by kernel_rfl) rfl) ?_
          refine r_val rfl rfl (fun w hI => x_load (by kernel_rfl) rfl (by first | exact c0 | exact hI.1)) ?_
          refine r_val rfl rfl (fun w hI => x_move (by conv => lhs; whnf)) ?_
          refine r_val rfl rfl (fun w hI => x_index (show SlT Try.prog 59 72 1 24 from ⟨by kernel_rfl, by kernel_rfl⟩) rfl rfl (by omega) (by omega) hI.2.choose_spec) ?_
          refine r_val rfl rfl (fun w hI => x_move (by conv => lhs; whnf)) ?_
          refine r_two rfl rfl ?_ ?_
          · skip
            refine s_buildSlice (vs := []) rfl (show SlT Try.prog 72 37 1 24 from ⟨by kernel_rfl, by kernel_rfl⟩) zSl rfl rfl (by simp) (by decide) H ?_
            clear H
            intro b5 w5 H
            simp only [List.cons_append, List.nil_append, List.flatMap_nil] at H
            refine s_end ?_
            refine ⟨⟨H.cell (i := 0) (off := 0) rfl rfl, _, H.rd (i := 1) rfl⟩, ?_⟩
            refine r_one rfl ?_
            refine s_val rfl (x_loadR (by kernel_rfl) rfl (H.rd (i := 1) rfl) (hel _ (by omega))) ?_
            refine s_end ?_
            refine ⟨⟨H.cell (i := 0) (off := 0) rfl rfl, _, H.rd (i := 1) rfl⟩, ?_⟩
            refine r_one rfl ?_
            refine s_append rfl (show SlT Try.prog 72 37 1 24 from ⟨by kernel_rfl, by kernel_rfl⟩) zSl ⟨_, (show SlT Try.prog 72 37 1 24 from ⟨by kernel_rfl, by kernel_rfl⟩).und⟩ rfl rfl H (i := 5) rfl (H.rdRow (i := 2) rfl (List.mem_of_getElem? hr)) (Fe_oneCell _) (by omega) (by omega) ?_
            clear H
            intro a6 cap6 w6 H
            simp only [List.set_cons_zero, List.set_cons_succ, List.nil_append] at H
            refine s_end ?_
            refine ⟨⟨H.cell (i := 0) (off := 0) rfl rfl, _, H.rd (i := 1) rfl⟩, ?_⟩
            refine r_one rfl ?_
            refine s_call rfl (by kernel_rfl) (rsector_calls (hR _ (H.only (i := 4) rfl)) (by omega)) rfl rfl ?_
            rintro v w7 ⟨a7, cap7, rfl, H7⟩
            replace H := H.more H7
            clear H7
            simp only [List.cons_append, List.nil_append] at H
            refine s_end ?_
            refine ⟨⟨H.cell (i := 0) (off := 0) rfl rfl, _, H.rd (i := 1) rfl⟩, ?_⟩
            refine r_one rfl ?_
            refine s_buildSlice (vs := [.slice a7 n cap7]) rfl (show SlT Try.prog 72 37 1 24 from ⟨by kernel_rfl, by kernel_rfl⟩) zSl rfl rfl (by simp [Value.cells]) (by decide) H ?_
            clear H
            intro b8 w8 H
            simp only [List.cons_append, List.nil_append] at H
            refine s_end ?_
            refine ⟨⟨H.cell (i := 0) (off := 0) rfl rfl, _, H.rd (i := 1) rfl⟩, ?_⟩
            refine r_one rfl ?_
            refine s_append rfl (show SlT Try.prog 72 37 1 24 from ⟨by kernel_rfl, by kernel_rfl⟩) zSl ⟨_, (show SlT Try.prog 72 37 1 24 from ⟨by kernel_rfl, by kernel_rfl⟩).und⟩ rfl rfl H (i := 5) rfl (H.rd (i := 7) rfl) (fun u hu => by simp [Value.cells] at hu; subst hu; rfl) (by omega) (by omega) ?_
            clear H
            intro a9 cap9 w9 H
            simp only [List.set_cons_zero, List.set_cons_succ] at H
            refine s_end ?_
            refine ⟨⟨H.cell (i := 0) (off := 0) rfl rfl, _, H.rd (i := 1) rfl⟩, ?_⟩
            refine r_val rfl rfl (fun w hI => x_index (show SlT Try.prog 59 72 1 24 from ⟨by kernel_rfl, by kernel_rfl⟩) rfl rfl (by omega) (by omega) hI.2.choose_spec) ?_
            refine r_one rfl ?_
            refine s_storeO rfl (by kernel_rfl) rfl (by conv => lhs; whnf) rfl H (i := 1) rfl (by rw [List.length_map, ← List.length_map (f := fun r : Rw => r.es.map Fe.bs), hv]; omega) ?_
            clear H
            intro w10 H
            simp only [List.set_cons_zero, List.set_cons_succ] at H
            refine s_end ?_
            refine ⟨⟨H.cell (i := 0) (off := 0) rfl rfl, _, H.rd (i := 1) rfl⟩, ?_⟩
            refine r_done ?_
            refine WP_r rfl ?_
            refine s_val rfl (x_assign (by conv => lhs; whnf)) ?_
            refine s_end ?_
            refine WP_ret ?_
            refine retQ_1 rfl (by conv => lhs; whnf) ?_
            have hn2 : n = 256 := by omega
            subst hn2
            have hbl : bs.length = 256 := by omega
            simp only [Nat.zero_add] at H
            have H1 := H.re 0 7 [0, 1, 2, 3, 4, 6, 5, 7] (by kernel_rfl)
            have hnew : ((Fe.mk 0 0 a7 cap7 bs).own) = slo 5 1 a7 256 cap7 (bys bs) := rfl
            obtain ⟨e, he⟩ : ∃ e : Fe, e = Fe.mk 0 0 a7 cap7 bs := ⟨_, rfl⟩
            obtain ⟨q, hq⟩ : ∃ q : Rw, q = Rw.mk a9 cap9 (r.es ++ [e]) := ⟨_, rfl⟩
            have hqo : q.own = slo 37 1 a9 (r.es.length + 1) cap9 (r.es.map Fe.sl ++ [.slice a7 256 cap7]) := by
              rw [hq, he]; unfold Rw.own
              rw [List.length_append, List.map_append]; rfl
            have hqv : q.val = .slice a9 (r.es.length + 1) cap9 := by
              rw [hq]; unfold Rw.val
              rw [List.length_append]; rfl
            have hri : (rows.map Rw.own)[i]? = some r.own := by rw [List.getElem?_map, hr]; rfl
            have hsl : (rows.map Rw.val).set (((i : Nat) : Int).toNat * 1) (.slice a9 (r.es.length + 1) cap9) = (rows.set i q).map Rw.val := by
              rw [List.map_set, hqv, show (((i : Nat) : Int).toNat * 1) = i by omega]
            unfold D.write; rw [if_neg (by omega), if_neg (by omega), if_neg (by rw [ht]; decide)]
            refine ⟨rfl, ?_⟩
            have e0 : ((i : Int)).toNat = i := by omega
            rw [e0]
            have H2 := Sat.swapIn (L := [_, _, stars (rows.map Rw.own), _, _, _]) (i := 2) (k := i) (q := q.own) (by rw [hqo]; exact H1) rfl hri
            simp only [List.set_cons_zero, List.set_cons_succ] at H2
            have H3 := Sat.absorb (L := [_, _, _, stars (pool.map Fe.own), _]) (i := 3) (p := e.own) (by rw [he]; exact H2) rfl
            simp only [List.set_cons_zero, List.set_cons_succ] at H3
            have hcl : (x.take.2.vals.getD i []).length < 4611686018427387904 := by
              rw [List.getD_eq_getElem?_getD, hl, Option.getD_some, List.length_map]; omega
            have hrows : (rows.set i q).map (fun r => r.es.map Fe.bs) = (x.take.2.put i bs).vals := by
              rw [List.map_set, hv]
              unfold D.put
              rw [hq, he, List.getD_eq_getElem?_getD, hl, Option.getD_some]
              simp only [List.map_append, List.map_cons, List.map_nil]
            have hpool : ∀ r' ∈ rows.set i q, ∀ e' ∈ r'.es, e' ∈ pool ++ [e] := fun r' hr' e' he' => by
              rcases List.mem_or_eq_of_mem_set hr' with h | h
              · exact List.mem_append_left _ (hp r' h e' he')
              · rw [h, hq] at he'
                rcases List.mem_append.1 he' with h | h
                · exact List.mem_append_left _ (hp r (List.mem_of_getElem? hr) e' h)
                · exact List.mem_append_right _ h
            refine REF.closeL (put_ok hok hbl hcl) hrows hpool (va := va) (vc := vc) ?_
            unfold rlist
            rw [show (x.take.2.put i bs).vals.length = x.take.2.vals.length by show (x.take.2.vals.set i _).length = _; rw [List.length_set], List.map_append (f := Fe.own), List.map_set (f := Rw.own), ← hsl]
            exact H3
          · skip
            refine s_val rfl (x_loadR (by kernel_rfl) rfl (H.rd (i := 1) rfl) (hel _ (by omega))) ?_
            refine s_end ?_
            refine ⟨⟨H.cell (i := 0) (off := 0) rfl rfl, _, H.rd (i := 1) rfl⟩, ?_⟩
            refine r_one rfl ?_
            refine s_buildSlice (vs := []) rfl (show SlT Try.prog 72 37 1 24 from ⟨by kernel_rfl, by kernel_rfl⟩) zSl rfl rfl (by simp) (by decide) H ?_
            clear H
            intro b5 w5 H
            simp only [List.cons_append, List.nil_append, List.flatMap_nil] at H
            refine s_end ?_
            refine ⟨⟨H.cell (i := 0) (off := 0) rfl rfl, _, H.rd (i := 1) rfl⟩, ?_⟩
            refine r_one rfl ?_
            refine s_append rfl (show SlT Try.prog 72 37 1 24 from ⟨by kernel_rfl, by kernel_rfl⟩) zSl ⟨_, (show SlT Try.prog 72 37 1 24 from ⟨by kernel_rfl, by kernel_rfl⟩).und⟩ rfl rfl H (i := 5) rfl (H.rdRow (i := 2) rfl (List.mem_of_getElem? hr)) (Fe_oneCell _) (by omega) (by omega) ?_
            clear H
            intro a6 cap6 w6 H
            simp only [List.set_cons_zero, List.set_cons_succ, List.nil_append] at H
            refine s_end ?_
            refine ⟨⟨H.cell (i := 0) (off := 0) rfl rfl, _, H.rd (i := 1) rfl⟩, ?_⟩
            refine r_one rfl ?_
            refine s_call rfl (by kernel_rfl) (rsector_calls (hR _ (H.only (i := 4) rfl)) (by omega)) rfl rfl ?_
            rintro v w7 ⟨a7, cap7, rfl, H7⟩
            replace H := H.more H7
            clear H7
            simp only [List.cons_append, List.nil_append] at H
            refine s_end ?_
            refine ⟨⟨H.cell (i := 0) (off := 0) rfl rfl, _, H.rd (i := 1) rfl⟩, ?_⟩
            refine r_one rfl ?_
            refine s_buildSlice (vs := [.slice a7 n cap7]) rfl (show SlT Try.prog 72 37 1 24 from ⟨by kernel_rfl, by kernel_rfl⟩) zSl rfl rfl (by simp [Value.cells]) (by decide) H ?_
            clear H
            intro b8 w8 H
            simp only [List.cons_append, List.nil_append] at H
            refine s_end ?_
            refine ⟨⟨H.cell (i := 0) (off := 0) rfl rfl, _, H.rd (i := 1) rfl⟩, ?_⟩
            refine r_one rfl ?_
            refine s_append rfl (show SlT Try.prog 72 37 1 24 from ⟨by kernel_rfl, by kernel_rfl⟩) zSl ⟨_, (show SlT Try.prog 72 37 1 24 from ⟨by kernel_rfl, by kernel_rfl⟩).und⟩ rfl rfl H (i := 5) rfl (H.rd (i := 7) rfl) (fun u hu => by simp [Value.cells] at hu; subst hu; rfl) (by omega) (by omega) ?_
            clear H
            intro a9 cap9 w9 H
            simp only [List.set_cons_zero, List.set_cons_succ] at H
            refine s_end ?_
            refine ⟨⟨H.cell (i := 0) (off := 0) rfl rfl, _, H.rd (i := 1) rfl⟩, ?_⟩
            refine r_val rfl rfl (fun w hI => x_index (show SlT Try.prog 59 72 1 24 from ⟨by kernel_rfl, by kernel_rfl⟩) rfl rfl (by omega) (by omega) hI.2.choose_spec) ?_
            refine r_one rfl ?_
            refine s_storeO rfl (by kernel_rfl) rfl (by conv => lhs; whnf) rfl H (i := 1) rfl (by rw [List.length_map, ← List.length_map (f := fun r : Rw => r.es.map Fe.bs), hv]; omega) ?_
            clear H
            intro w10 H
            simp only [List.set_cons_zero, List.set_cons_succ] at H
            refine s_end ?_
            refine ⟨⟨H.cell (i := 0) (off := 0) rfl rfl, _, H.rd (i := 1) rfl⟩, ?_⟩
            refine r_done ?_
            refine WP_r rfl ?_
            refine s_val rfl (x_assign (by conv => lhs; whnf)) ?_
            refine s_end ?_
            refine WP_ret ?_
            refine retQ_1 rfl (by conv => lhs; whnf) ?_
            have hn2 : n = 256 := by omega
            subst hn2
            have hbl : bs.length = 256 := by omega
            simp only [Nat.zero_add] at H
            have H1 := H.re 0 7 [0, 1, 2, 3, 4, 6, 5, 7] (by kernel_rfl)
            have hnew : ((Fe.mk 0 0 a7 cap7 bs).own) = slo 5 1 a7 256 cap7 (bys bs) := rfl
            obtain ⟨e, he⟩ : ∃ e : Fe, e = Fe.mk 0 0 a7 cap7 bs := ⟨_, rfl⟩
            obtain ⟨q, hq⟩ : ∃ q : Rw, q = Rw.mk a9 cap9 (r.es ++ [e]) := ⟨_, rfl⟩
            have hqo : q.own = slo 37 1 a9 (r.es.length + 1) cap9 (r.es.map Fe.sl ++ [.slice a7 256 cap7]) := by
              rw [hq, he]; unfold Rw.own
              rw [List.length_append, List.map_append]; rfl
            have hqv : q.val = .slice a9 (r.es.length + 1) cap9 := by
              rw [hq]; unfold Rw.val
              rw [List.length_append]; rfl
            have hri : (rows.map Rw.own)[i]? = some r.own := by rw [List.getElem?_map, hr]; rfl
            have hsl : (rows.map Rw.val).set (((i : Nat) : Int).toNat * 1) (.slice a9 (r.es.length + 1) cap9) = (rows.set i q).map Rw.val := by
              rw [List.map_set, hqv, show (((i : Nat) : Int).toNat * 1) = i by omega]
            unfold D.write; rw [if_neg (by omega), if_neg (by omega), if_neg (by rw [ht]; decide)]
            refine ⟨rfl, ?_⟩
            have e0 : ((i : Int)).toNat = i := by omega
            rw [e0]
            have H2 := Sat.swapIn (L := [_, _, stars (rows.map Rw.own), _, _, _]) (i := 2) (k := i) (q := q.own) (by rw [hqo]; exact H1) rfl hri
            simp only [List.set_cons_zero, List.set_cons_succ] at H2
            have H3 := Sat.absorb (L := [_, _, _, stars (pool.map Fe.own), _]) (i := 3) (p := e.own) (by rw [he]; exact H2) rfl
            simp only [List.set_cons_zero, List.set_cons_succ] at H3
            have hcl : (x.take.2.vals.getD i []).length < 4611686018427387904 := by
              rw [List.getD_eq_getElem?_getD, hl, Option.getD_some, List.length_map]; omega
            have hrows : (rows.set i q).map (fun r => r.es.map Fe.bs) = (x.take.2.put i bs).vals := by
              rw [List.map_set, hv]
              unfold D.put
              rw [hq, he, List.getD_eq_getElem?_getD, hl, Option.getD_some]
              simp only [List.map_append, List.map_cons, List.map_nil]
            have hpool : ∀ r' ∈ rows.set i q, ∀ e' ∈ r'.es, e' ∈ pool ++ [e] := fun r' hr' e' he' => by
              rcases List.mem_or_eq_of_mem_set hr' with h | h
              · exact List.mem_append_left _ (hp r' h e' he')
              · rw [h, hq] at he'
                rcases List.mem_append.1 he' with h | h
                · exact List.mem_append_left _ (hp r (List.mem_of_getElem? hr) e' h)
                · exact List.mem_append_right _ h
            refine REF.closeL (put_ok hok hbl hcl) hrows hpool (va := va) (vc := vc) ?_
            unfold rlist
            rw [show (x.take.2.put i bs).vals.length = x.take.2.vals.length by show (x.take.2.vals.set i _).length = _; rw [List.length_set], List.map_append (f := Fe.own), List.map_set (f := Rw.own), ← hsl]
            exact H3
end Go.Sl
