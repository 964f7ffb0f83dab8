/- The document's own disk: Crash. -/
import Derived.Test.YthalgkfafoehkaaRef5
namespace Go.Sl
open Go.Proofs

def crashF (picks : List Int) (v : List (List Sect)) (i : Nat) (l : List Sect) : List Sect := if 1 < l.length then [l.getD (pickOf picks (pendOf (v.take i)) (l.length - 1)) []] else l
theorem crashF_one (picks : List Int) (v : List (List Sect)) : OneOf (crashF picks v) v := fun i l _ => by
  unfold crashF
  split
  · have := pickOf_le picks (pendOf (v.take i)) (l.length - 1)
    exact .inr ⟨_, by rw [List.getD_eq_getElem?_getD, List.getElem?_eq_getElem (show pickOf picks (pendOf (v.take i)) (l.length - 1) < l.length by omega), Option.getD_some]; exact List.getElem_mem _, rfl⟩
  · exact .inl rfl
theorem settle_crash (picks : List Int) : ∀ (v pre : List (List Sect)), (settleL (fun (s : Nat) m => (pickOf picks s m, s + 1)) v (pendOf pre)).1 = v.mapIdx fun i l => crashF picks (pre ++ v) (pre.length + i) l := by
  intro v
  induction v with
  | nil => intro pre; rfl
  | cons l v ih =>
    intro pre
    have hsp : pendOf (pre ++ [l]) = pendOf pre + if 1 < l.length then 1 else 0 := by
      have := pend_step (v := pre ++ [l]) (k := pre.length) (l := l) (by simp)
      rw [List.take_of_length_le (by simp), List.take_left] at this
      exact this
    have h2 := ih (pre ++ [l])
    have htk : ((pre ++ l :: v).take pre.length) = pre := List.take_left
    rw [List.mapIdx_cons]
    unfold settleL
    have hrest : (v.mapIdx fun i u => crashF picks (pre ++ [l] ++ v) ((pre ++ [l]).length + i) u) = v.mapIdx fun i u => crashF picks (pre ++ l :: v) (pre.length + (i + 1)) u := by
      congr 1
      funext i u
      rw [List.append_assoc, List.length_append, List.length_singleton, show pre.length + 1 + i = pre.length + (i + 1) by omega]; rfl
    split
    · rename_i hl
      rw [hsp, if_pos hl] at h2
      show [_] :: (settleL _ v (pendOf pre + 1)).1 = _ :: _
      rw [h2, hrest]
      congr 1
      unfold crashF
      rw [if_pos hl]; simp only [Nat.add_zero, htk]
    · rename_i hl
      rw [hsp, if_neg hl, Nat.add_zero] at h2
      show l :: (settleL _ v (pendOf pre)).1 = _ :: _
      rw [h2, hrest]
      congr 1
      unfold crashF
      rw [if_neg hl]
theorem x_convI_of {P : Program} {ρ : Fr} {w : World} {ty : TypeId} {x : Operand} {s d : TypeId} {k k' : IntKind} {n m : Int} (e : k'.wrap n = m) (hs : intB P s k = true) (hd : intB P d k' = true) (hx : ev ρ x = .int k n) : Ev1 P (.convert s d x) ty ρ w (.int k' m) w := by
  have h := x_convI (P := P) (ty := ty) (w := w) (q := k) hs hd hx
  rwa [e] at h
theorem rCrash_calls {w0 w : World} {y : Nat} {x : D} {F : HP} {picks : List Int} {pa : Option Addr} {pn pc : Nat} (hR : ∀ w', Sat w0 w' [F] → Rd w' pa pn pc 1 (picks.map intF)) (hpc : pc ≤ 4611686018427387904) (H : Sat w0 w [REF y x, F]) :
    Calls Try.prog 32 #[dp y, .slice pa pn pc] w (Ret fun v w' => v = .tuple #[] ∧ Sat w0 w' [REF y (x.crash picks), F]) := by
  have hzok : x.Ok := by obtain ⟨_, _, _, _, hok, _⟩ := REF.openL H; exact hok
  have hzb := hzok.big
  have hpn : pn = picks.length := by have := (hR w (H.drop 0)).1; simp at this; omega
  refine calls_of Try.func32 rfl rfl ?_
  refine WP_r rfl ?_
  refine s_val rfl (x_assign (by conv => lhs; whnf)) ?_
  refine s_end ?_
  refine WP_seq ?_
  refine WP_r rfl ?_
  refine s_val rfl (x_assign (by conv => lhs; whnf)) ?_
  refine s_end ?_
  refine WP_block ?_
  have hz0 : x = x.mix (crashF picks x.vals) 0 := by unfold D.mix mixV; simp
  refine WP_loopA (α := Nat) (fun k => [(0, dp y), (1, .slice pa pn pc), (4, .int .i64 (pendOf (x.vals.take k) : Nat)), (5, .int .i64 k)]) (fun k w' => k ≤ x.vals.length ∧ Sat w0 w' [REF y (x.mix (crashF picks x.vals) k), F]) (fun k => x.vals.length - k) 0 ⟨rfl, rfl, rfl, rfl, trivial⟩ ⟨Nat.zero_le _, hz0 ▸ H⟩ ?_
  clear H
  intro k ρ w2 ⟨hk, H⟩
  have hpk := pend_le (x.vals.take k)
  rw [List.length_take] at hpk
  obtain ⟨va, vc, rows, pool, hok, hv, hp, H⟩ := REF.openL H
  simp only [rlist, List.cons_append, List.nil_append] at H
  have hml : (x.mix (crashF picks x.vals) k).vals.length = x.vals.length := mixV_len _ _ _
  have c0 := H.cell (i := 0) (off := 0) rfl rfl
  refine WP_seq ?_
  refine WP_r rfl ?_
  refine s_val rfl (x_move (by conv => lhs; whnf)) ?_
  refine s_val rfl (x_move (by conv => lhs; whnf)) ?_
  refine s_val rfl (x_nilCheck rfl) ?_
  refine s_val rfl (x_field (off := 0) (by kernel_rfl) rfl) ?_
  refine s_val rfl (x_load (by kernel_rfl) rfl (by first | exact c0 | exact hI.1)) ?_
  refine s_val rfl (x_lenS (by kernel_rfl) rfl) ?_
  refine s_val rfl (x_lss rfl rfl) ?_
  refine s_end ?_
  refine WP_cond_dec rfl (fun h1 => ?_) (fun h1 => ?_)
  · skip
    refine WP_skip ?_
    refine thenQ_n ?_
    refine WP_seq ?_
    refine WP_block ?_
    have hkl : k < x.vals.length := by omega
    obtain ⟨r, hr, hvi⟩ := rows_at hv (i := k) (by omega)
    have hvk : x.vals[k]? = some (r.es.map Fe.bs) := by
      have h5 := mixV_get (crashF picks x.vals) x.vals k k
      rw [if_neg (by omega)] at h5
      rw [← h5]; exact hvi
    have hle : r.es.length ≤ 4611686018427387904 := by
      have := (hzok.each _ (List.mem_of_getElem? hvk)).2
      rwa [List.length_map] at this
    have hps := pend_step hvk
    rw [List.length_map] at hps
    have hel : ∀ j, j = k → (rows.map Rw.val)[j]? = some r.val := fun j hj => by subst hj; rw [List.getElem?_map, hr]; rfl
    have HV := H.rd (i := 1) rfl
    have HRr := H.rdRow (i := 2) rfl (List.mem_of_getElem? hr)
    refine WP_r rfl ?_
    refine s_val rfl (x_move (by conv => lhs; whnf)) ?_
    refine s_val rfl (x_nilCheck rfl) ?_
    refine s_val rfl (x_field (off := 0) (by kernel_rfl) rfl) ?_
    refine s_val rfl (x_load (by kernel_rfl) rfl (by first | exact c0 | exact hI.1)) ?_
    refine s_val rfl (x_move (by conv => lhs; whnf)) ?_
    refine s_val rfl (x_index (show SlT Try.prog 59 72 1 24 from ⟨by kernel_rfl, by kernel_rfl⟩) rfl rfl (by omega) (by omega) HV) ?_
    refine s_val rfl (x_loadR (by kernel_rfl) rfl HV (hel _ (by omega))) ?_
    refine s_val rfl (x_assign (by conv => lhs; whnf)) ?_
    refine s_end ?_
    refine WP_seq ?_
    refine WP_r rfl ?_
    refine s_val rfl (x_move (by conv => lhs; whnf)) ?_
    refine s_val rfl (x_lenS (by kernel_rfl) rfl) ?_
    refine s_val rfl (x_lss rfl rfl) ?_
    refine s_end ?_
    refine WP_cond_dec rfl (fun h2 => ?_) (fun h2 => ?_)
    · skip
      refine WP_exit ?_
      refine thenQ_e ?_
      refine blockQ_hit ?_
      refine thenQ_n ?_
      refine WP_region rfl ?_
      refine s_val rfl (x_move (by conv => lhs; whnf)) ?_
      refine s_val rfl (x_addi rfl rfl (by omega)) ?_
      refine s_val rfl (x_assign (by conv => lhs; whnf)) ?_
      refine s_end ?_
      first
        | exact loopQ_A (k + 1) (by omega) ⟨rfl, rfl, by rw [hps, if_pos (by omega)]; rfl, rfl, trivial⟩ ⟨by omega, H2⟩
        | exact loopQ_A (k + 1) (by omega) ⟨rfl, rfl, by rw [hps, if_neg (by omega)]; rfl, rfl, trivial⟩ ⟨by omega, by
            have hk := mixV_keep (crashF picks x.vals) hvk (by unfold crashF; rw [List.length_map, if_neg (by omega)])
            have H2 := REF.closeL hok hv hp H
            rw [show x.mix (crashF picks x.vals) k = x.mix (crashF picks x.vals) (k + 1) by unfold D.mix; rw [hk]] at H2
            exact H2⟩
    · skip
      refine WP_skip ?_
      refine thenQ_n ?_
      have hlen : 1 < r.es.length := by omega
      obtain ⟨J, hJ⟩ : ∃ J, pendOf (x.vals.take k) = J := ⟨_, rfl⟩
      rw [hJ] at hpk hps ⊢
      obtain ⟨tv, htv⟩ : ∃ tv, pickOf picks J (r.es.length - 1) = tv := ⟨_, rfl⟩
      have htl := pickOf_le picks J (r.es.length - 1)
      rw [htv] at htl
      obtain ⟨e, he⟩ : ∃ e, r.es[tv]? = some e := ⟨_, List.getElem?_eq_getElem (by omega)⟩
      have hel2 : ∀ j, j = tv → (r.es.map Fe.sl)[j]? = some e.sl := fun j hj => by subst hj; rw [List.getElem?_map, he]; rfl
      have hcf : crashF picks x.vals k (r.es.map Fe.bs) = [e.bs] := by
        unfold crashF
        rw [List.length_map, if_pos hlen, hJ, htv, List.getD_eq_getElem?_getD, List.getElem?_map, he]; rfl
      refine WP_r rfl ?_
      refine s_val rfl (x_assign (by conv => lhs; whnf)) ?_
      refine s_end ?_
      refine WP_seq ?_
      refine WP_r rfl ?_
      refine s_val rfl (x_move (by conv => lhs; whnf)) ?_
      refine s_val rfl (x_move (by conv => lhs; whnf)) ?_
      refine s_val rfl (x_lenS (by kernel_rfl) rfl) ?_
      refine s_val rfl (x_lss rfl rfl) ?_
      refine s_end ?_
      refine WP_cond_dec rfl (fun h3 => ?_) (fun h3 => ?_)
      · skip
        have HRp := hR _ (H.only (i := 4) rfl)
        have hJl : J < picks.length := by omega
        have help : ∀ j, j = J → (picks.map intF)[j]? = some (.int .i64 picks[J]) := fun j hj => by subst hj; rw [List.getElem?_map, List.getElem?_eq_getElem hJl]; rfl
        have e1 : IntKind.u64.wrap (r.es.length : Int) = (r.es.length : Int) := IntWalk.u64_in _ ⟨by omega, by omega⟩
        have e2 : IntKind.u64.wrap picks[J] = (((picks[J] % 18446744073709551616).toNat : Nat) : Int) := by rw [IntKind.wrap_u64]; omega
        have hw : IntKind.i64.wrap (IntKind.u64.wrap picks[J] % IntKind.u64.wrap (r.es.length : Int)) = (tv : Int) := by
          rw [e1, e2, ← htv]
          unfold pickOf
          rw [if_neg (by omega), List.getD_eq_getElem?_getD, List.getElem?_eq_getElem hJl, Option.getD_some, show r.es.length - 1 + 1 = r.es.length by omega, ← Int.natCast_emod]
          have := Nat.mod_lt (picks[J] % 18446744073709551616).toNat (show 0 < r.es.length by omega)
          exact IntWalk.i64_in _ (by omega)
        refine WP_region rfl ?_
        refine s_val rfl (x_move (by conv => lhs; whnf)) ?_
        refine s_val rfl (x_move (by conv => lhs; whnf)) ?_
        refine s_val rfl (x_index (show SlT Try.prog 31 3 1 8 from ⟨by kernel_rfl, by kernel_rfl⟩) rfl rfl (by omega) (by omega) HRp) ?_
        refine s_val rfl (x_loadR (by kernel_rfl) rfl HRp (help _ (by omega))) ?_
        refine s_val rfl (x_convI (q := .i64) (k' := .u64) (by kernel_rfl) (by kernel_rfl) rfl) ?_
        refine s_val rfl (x_move (by conv => lhs; whnf)) ?_
        refine s_val rfl (x_lenS (by kernel_rfl) rfl) ?_
        refine s_val rfl (x_convI (q := .i64) (k' := .u64) (by kernel_rfl) (by kernel_rfl) rfl) ?_
        refine s_val rfl (x_remi rfl rfl ⟨by rw [IntKind.wrap_u64]; omega, by rw [e1]; omega⟩) ?_
        refine s_val rfl (x_convI_of hw (by kernel_rfl) (by kernel_rfl) rfl) ?_
        refine s_val rfl (x_assign (by conv => lhs; whnf)) ?_
        refine s_end ?_
        refine thenQ_n ?_
        refine WP_r rfl ?_
        refine s_val rfl (x_move (by conv => lhs; whnf)) ?_
        refine s_val rfl (x_addi rfl rfl (by omega)) ?_
        refine s_val rfl (x_assign (by conv => lhs; whnf)) ?_
        refine s_end ?_
        refine WP_draw (fun w => w.cell? ⟨y, 0, none⟩ = some (.slice va (x.mix (crashF picks x.vals) k).vals.length vc) ∧ (∃ cs, Rd w va (x.mix (crashF picks x.vals) k).vals.length vc 1 cs) ∧ Rd w r.a r.es.length r.cap 1 (r.es.map Fe.sl)) (.float 0 (.float 1 (.float 2 (.float 3 (.float 4 (.float 5 (.float 6 (.float 7 (.float 8 (.fork [(9, .float 10 (.fork [(11, .done)]))])))))))))) (by kernel_rfl) (by kernel_rfl) ⟨c0, ⟨_, HV⟩, HRr⟩ ?_
        replace H := H.heapEq (w' := { w2 with drawn := w2.drawn + 1 }) rfl
        refine r_val rfl rfl (fun w hI => x_move (by conv => lhs; whnf)) ?_
        refine r_val rfl rfl (fun w hI => x_nilCheck rfl) ?_
        refine r_val rfl rfl (fun w hI => x_field (off := 0) (by kernel_rfl) rfl) ?_
        refine r_val rfl rfl (fun w hI => x_load (by kernel_rfl) rfl (by first | exact c0 | exact hI.1)) ?_
        refine r_val rfl rfl (fun w hI => x_move (by conv => lhs; whnf)) ?_
        refine r_val rfl rfl (fun w hI => x_move (by conv => lhs; whnf)) ?_
        refine r_val rfl rfl (fun w hI => x_move (by conv => lhs; whnf)) ?_
        refine r_val rfl rfl (fun w hI => x_index (show SlT Try.prog 72 37 1 24 from ⟨by kernel_rfl, by kernel_rfl⟩) rfl rfl (by omega) (by omega) hI.2.2) ?_
        refine r_val rfl rfl (fun w hI => x_loadR (by kernel_rfl) rfl hI.2.2 (hel2 _ (by omega))) ?_
        refine r_one rfl ?_
        refine s_buildSlice (vs := [e.sl]) rfl (show SlT Try.prog 72 37 1 24 from ⟨by kernel_rfl, by kernel_rfl⟩) zSl rfl rfl (by simp [Value.cells, Fe.sl]) (by decide) H ?_
        clear H
        intro b w3 H
        simp only [List.cons_append, List.nil_append] at H
        refine s_end ?_
        refine ⟨⟨H.cell (i := 0) (off := 0) rfl rfl, ⟨_, H.rd (i := 1) rfl⟩, H.rdRow (i := 2) rfl (List.mem_of_getElem? hr)⟩, ?_⟩
        refine r_val rfl rfl (fun w hI => x_index (show SlT Try.prog 59 72 1 24 from ⟨by kernel_rfl, by kernel_rfl⟩) rfl rfl (by omega) (by omega) hI.2.1.choose_spec) ?_
        refine r_one rfl ?_
        refine s_storeO rfl (by kernel_rfl) rfl (by conv => lhs; whnf) rfl H (i := 1) rfl (by rw [List.length_map, ← List.length_map (f := fun r : Rw => r.es.map Fe.bs), hv]; omega) ?_
        clear H
        intro w4 H
        simp only [List.set_cons_zero, List.set_cons_succ] at H
        rw [show ((k : Int).toNat * 1) = k by omega] at H
        have hst := mixV_step (crashF picks x.vals) hvk
        rw [hcf] at hst
        have H2 := REF.putRow (x := x.mix (crashF picks x.vals) k) (e := e) (r := r) (v := mixV (crashF picks x.vals) x.vals (k + 1)) (mix_ok hzok (crashF_one picks x.vals) (k + 1)) hv hp hr (List.mem_of_getElem? he) hst H
        refine s_end ?_
        refine ⟨⟨H.cell (i := 0) (off := 0) rfl rfl, ⟨_, H.rd (i := 1) rfl⟩, H.rdRow (i := 2) rfl (List.mem_of_getElem? hr)⟩, ?_⟩
        refine r_done ?_
        refine blockQ_n ?_
        refine thenQ_n ?_
        refine WP_region rfl ?_
        refine s_val rfl (x_move (by conv => lhs; whnf)) ?_
        refine s_val rfl (x_addi rfl rfl (by omega)) ?_
        refine s_val rfl (x_assign (by conv => lhs; whnf)) ?_
        refine s_end ?_
        first
          | exact loopQ_A (k + 1) (by omega) ⟨rfl, rfl, by rw [hps, if_pos (by omega)]; rfl, rfl, trivial⟩ ⟨by omega, H2⟩
          | exact loopQ_A (k + 1) (by omega) ⟨rfl, rfl, by rw [hps, if_neg (by omega)]; rfl, rfl, trivial⟩ ⟨by omega, by
              have hk := mixV_keep (crashF picks x.vals) hvk (by unfold crashF; rw [List.length_map, if_neg (by omega)])
              have H2 := REF.closeL hok hv hp H
              rw [show x.mix (crashF picks x.vals) k = x.mix (crashF picks x.vals) (k + 1) by unfold D.mix; rw [hk]] at H2
              exact H2⟩
      · skip
        have hz : tv = 0 := by rw [← htv]; unfold pickOf; rw [if_pos (by omega)]
        refine WP_skip ?_
        refine thenQ_n ?_
        refine WP_r rfl ?_
        refine s_val rfl (x_move (by conv => lhs; whnf)) ?_
        refine s_val rfl (x_addi rfl rfl (by omega)) ?_
        refine s_val rfl (x_assign (by conv => lhs; whnf)) ?_
        refine s_end ?_
        refine WP_draw (fun w => w.cell? ⟨y, 0, none⟩ = some (.slice va (x.mix (crashF picks x.vals) k).vals.length vc) ∧ (∃ cs, Rd w va (x.mix (crashF picks x.vals) k).vals.length vc 1 cs) ∧ Rd w r.a r.es.length r.cap 1 (r.es.map Fe.sl)) (.float 0 (.float 1 (.float 2 (.float 3 (.float 4 (.float 5 (.float 6 (.float 7 (.float 8 (.fork [(9, .float 10 (.fork [(11, .done)]))])))))))))) (by kernel_rfl) (by kernel_rfl) ⟨c0, ⟨_, HV⟩, HRr⟩ ?_
        replace H := H.heapEq (w' := { w2 with drawn := w2.drawn + 1 }) rfl
        refine r_val rfl rfl (fun w hI => x_move (by conv => lhs; whnf)) ?_
        refine r_val rfl rfl (fun w hI => x_nilCheck rfl) ?_
        refine r_val rfl rfl (fun w hI => x_field (off := 0) (by kernel_rfl) rfl) ?_
        refine r_val rfl rfl (fun w hI => x_load (by kernel_rfl) rfl (by first | exact c0 | exact hI.1)) ?_
        refine r_val rfl rfl (fun w hI => x_move (by conv => lhs; whnf)) ?_
        refine r_val rfl rfl (fun w hI => x_move (by conv => lhs; whnf)) ?_
        refine r_val rfl rfl (fun w hI => x_move (by conv => lhs; whnf)) ?_
        refine r_val rfl rfl (fun w hI => x_index (show SlT Try.prog 72 37 1 24 from ⟨by kernel_rfl, by kernel_rfl⟩) rfl rfl (by omega) (by omega) hI.2.2) ?_
        refine r_val rfl rfl (fun w hI => x_loadR (by kernel_rfl) rfl hI.2.2 (hel2 _ (by omega))) ?_
        refine r_one rfl ?_
        refine s_buildSlice (vs := [e.sl]) rfl (show SlT Try.prog 72 37 1 24 from ⟨by kernel_rfl, by kernel_rfl⟩) zSl rfl rfl (by simp [Value.cells, Fe.sl]) (by decide) H ?_
        clear H
        intro b w3 H
        simp only [List.cons_append, List.nil_append] at H
        refine s_end ?_
        refine ⟨⟨H.cell (i := 0) (off := 0) rfl rfl, ⟨_, H.rd (i := 1) rfl⟩, H.rdRow (i := 2) rfl (List.mem_of_getElem? hr)⟩, ?_⟩
        refine r_val rfl rfl (fun w hI => x_index (show SlT Try.prog 59 72 1 24 from ⟨by kernel_rfl, by kernel_rfl⟩) rfl rfl (by omega) (by omega) hI.2.1.choose_spec) ?_
        refine r_one rfl ?_
        refine s_storeO rfl (by kernel_rfl) rfl (by conv => lhs; whnf) rfl H (i := 1) rfl (by rw [List.length_map, ← List.length_map (f := fun r : Rw => r.es.map Fe.bs), hv]; omega) ?_
        clear H
        intro w4 H
        simp only [List.set_cons_zero, List.set_cons_succ] at H
        rw [show ((k : Int).toNat * 1) = k by omega] at H
        have hst := mixV_step (crashF picks x.vals) hvk
        rw [hcf] at hst
        have H2 := REF.putRow (x := x.mix (crashF picks x.vals) k) (e := e) (r := r) (v := mixV (crashF picks x.vals) x.vals (k + 1)) (mix_ok hzok (crashF_one picks x.vals) (k + 1)) hv hp hr (List.mem_of_getElem? he) hst H
        refine s_end ?_
        refine ⟨⟨H.cell (i := 0) (off := 0) rfl rfl, ⟨_, H.rd (i := 1) rfl⟩, H.rdRow (i := 2) rfl (List.mem_of_getElem? hr)⟩, ?_⟩
        refine r_done ?_
        refine blockQ_n ?_
        refine thenQ_n ?_
        refine WP_region rfl ?_
        refine s_val rfl (x_move (by conv => lhs; whnf)) ?_
        refine s_val rfl (x_addi rfl rfl (by omega)) ?_
        refine s_val rfl (x_assign (by conv => lhs; whnf)) ?_
        refine s_end ?_
        first
          | exact loopQ_A (k + 1) (by omega) ⟨rfl, rfl, by rw [hps, if_pos (by omega)]; rfl, rfl, trivial⟩ ⟨by omega, H2⟩
          | exact loopQ_A (k + 1) (by omega) ⟨rfl, rfl, by rw [hps, if_neg (by omega)]; rfl, rfl, trivial⟩ ⟨by omega, by
              have hk := mixV_keep (crashF picks x.vals) hvk (by unfold crashF; rw [List.length_map, if_neg (by omega)])
              have H2 := REF.closeL hok hv hp H
              rw [show x.mix (crashF picks x.vals) k = x.mix (crashF picks x.vals) (k + 1) by unfold D.mix; rw [hk]] at H2
              exact H2⟩
  · skip
    refine WP_exit ?_
    refine thenQ_e ?_
    refine loopQ_e ?_
    refine blockQ_hit ?_
    have hkl : k = x.vals.length := by omega
    subst hkl
    refine thenQ_n ?_
    refine WP_region rfl ?_
    refine s_val rfl (x_move (by conv => lhs; whnf)) ?_
    refine s_val rfl (x_move (by conv => lhs; whnf)) ?_
    refine s_val rfl (x_nilCheck rfl) ?_
    refine s_val rfl (x_field (off := 2) (by kernel_rfl) rfl) ?_
    refine s_store rfl (by kernel_rfl) rfl (by conv => lhs; whnf) rfl H (i := 0) rfl rfl ?_
    clear H; intro _ H
    simp only [List.set_cons_zero, List.set_cons_succ, List.setIfInBounds_toArray] at H
    refine s_val rfl (x_nilCheck rfl) ?_
    refine s_val rfl (x_field (off := 1) (by kernel_rfl) rfl) ?_
    refine s_store rfl (by kernel_rfl) rfl (by conv => lhs; whnf) rfl H (i := 0) rfl rfl ?_
    clear H; intro _ H
    simp only [List.set_cons_zero, List.set_cons_succ, List.setIfInBounds_toArray] at H
    refine s_end ?_
    refine retQ_0n rfl ?_
    refine ⟨rfl, ?_⟩
    have e2 : x.crash picks = { x.mix (crashF picks x.vals) x.vals.length with off := false, left := -1 } := by
      unfold D.crash D.settle D.mix
      have h := settle_crash picks x.vals []
      simp only [List.nil_append, List.length_nil, Nat.zero_add] at h
      rw [mixV_all]
      show D.mk (settleL _ x.vals (pendOf [])).1 _ _ _ = _
      rw [h]
    rw [e2]
    exact REF.closeL (x := { x.mix (crashF picks x.vals) x.vals.length with off := false, left := -1 }) ⟨hok.pos, hok.big, hok.each, hok.sect, by show -1 ≤ (-1 : Int) ∧ (-1 : Int) ≤ _; decide, hok.taken⟩ hv hp H
end Go.Sl
