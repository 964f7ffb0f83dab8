/- Several texts of this proof in one. -/
import Derived.Test.YthalgkfafoehkaaDoorGWalA
import Derived.Test.YthalgkfafoehkaaDoorLay
/- A log is formatted, checked, opened. -/
namespace Go.Sl
open Go.Proofs

structure LgOk (x : D) (at_ cap : Int) (l : Lg) : Prop where
  place : x.logPlace at_ cap
  off : x.off = false
  turn : l.turn < 4294967296
  cnt : (l.homes.length : Int) ≤ cap
  dlen : l.data.length = l.homes.length * 256
  homes : ∀ h ∈ l.homes, at_ + cap < h ∧ (h : Int) < x.vals.length
  rises : rises l.homes = true
  hdr : hdr l.turn l.homes l.data = x.latest at_.toNat
theorem logged_ok {x : D} (hok : x.Ok) {at_ cap : Int} (h : (x.logged at_ cap).e = 0) : LgOk x at_ cap (x.logged at_ cap) := by
  unfold D.logged at h ⊢
  by_cases h1 : x.logPlace at_ cap
  · rw [if_neg (not_not_intro h1)] at h ⊢
    by_cases h2 : (x.read at_).1 = 0
    · rw [if_neg (not_not_intro h2)] at h ⊢
      obtain ⟨ha, hb, hl, ho, hlat⟩ := read_ok hok h2
      by_cases h3 : cap < num (x.read at_).2 8 2
      · rw [if_pos h3] at h; cases h
      · rw [if_neg h3] at h ⊢
        split at h
        · cases h
        · rename_i h4
          rw [if_neg h4]
          have h1' := id h1
          unfold D.logPlace at h1'
          have hc := num_lt (bs := (x.read at_).2) (a := 8) (s := 2) (by omega)
          have hhl : (D.homesOf (x.read at_).2).length = num (x.read at_).2 8 2 := by unfold D.homesOf; rw [List.length_map, List.length_range]
          refine ⟨h1, ho, num_lt (by omega), ?_, ?_, ?_, ?_, ?_⟩
          · show ((D.homesOf (x.read at_).2).length : Int) ≤ cap
            rw [hhl]; omega
          · show (x.dataOf at_.toNat (x.read at_).2).length = (D.homesOf (x.read at_).2).length * 256
            rw [hhl, Nat.mul_comm]
            exact dataOf_len hok _ _ (by omega)
          · intro k hk
            have h5 : ¬ ((k : Int) ≤ at_ + cap ∨ (x.vals.length : Int) ≤ k) := fun q => h4 (.inl (List.any_eq_true.2 ⟨k, hk, decide_eq_true q⟩))
            omega
          · show Go.Sl.rises (D.homesOf (x.read at_).2) = true
            cases hr : Go.Sl.rises (D.homesOf (x.read at_).2) with
            | true => rfl
            | false => exact absurd (.inr (.inl hr)) h4
          · rw [← hlat]
            exact Classical.byContradiction fun q => h4 (.inr (.inr q))
    · rw [if_pos h2] at h; exact absurd h h2
  · rw [if_pos h1] at h; cases h
theorem emptyS_len (at_ : Int) (t : Nat) : (emptyS at_ t).length = 2 := rfl
theorem homeS_len (at_ : Int) (t : Nat) (homes : List Nat) (data : List UInt8) : (homeS at_ t homes data).length = homes.length + 3 := by
  unfold homeS homeS0
  rw [List.length_append, List.length_map, List.length_range, List.length_cons, emptyS_len]
def D.format (x : D) (at_ cap : Int) : Int × D := if x.logPlace at_ cap then ((runSt (emptyS at_ 0) (x, 0)).1, (runSt (emptyS at_ 0) (x, 0)).2.1) else (2, x)
theorem Format_calls {w0 w : World} {L : List HP} {i d B : Nat} {x : D} (H0 : Sat w0 w L) (hi : L[i]? = some (DK d x)) (hh : Half w0) (at_ cap : Int) (hB1 : 1 ≤ B) (hB : SmallV B x.vals) (hb : B < 1000000000000) :
    Calls Tryd.prog 10 #[dp d, .int .i64 at_, .int .i64 cap] w (Ret fun v w' => v = .int .i64 (x.format at_ cap).1 ∧ Sat w0 w' (L.set i (DK d (x.format at_ cap).2))) := by
  have H := H0.focus hi
  have hpos := (H.hd (i := 0) rfl).ok.pos
  refine calls_of Tryd.func10 rfl rfl ?_
  refine WP_r rfl ?_
  refine s_val rfl (x_assign (by conv => lhs; whnf)) ?_
  refine s_end ?_
  refine WP_seq ?_
  refine WP_block ?_
  refine WP_r rfl ?_
  refine s_val rfl (x_move (by conv => lhs; whnf)) ?_
  refine s_call rfl (by kernel_rfl) (Sectors_calls (H.hd (i := 0) rfl)) rfl rfl ?_
  rintro _ _ ⟨rfl, e_⟩; replace H := H.heapEq e_; clear e_
  refine s_val rfl (x_eql_no rfl rfl (by omega)) ?_
  refine s_val rfl (x_assign (by conv => lhs; whnf)) ?_
  refine s_end ?_
  refine WP_cond_false rfl ?_
  refine WP_r rfl ?_
  refine s_val rfl (x_move (by conv => lhs; whnf)) ?_
  refine s_val rfl (x_move (by conv => lhs; whnf)) ?_
  refine s_val rfl (x_move (by conv => lhs; whnf)) ?_
  refine s_call rfl (by kernel_rfl) (place_calls (H.hd (i := 0) rfl) at_ cap) rfl rfl ?_
  rintro _ _ ⟨rfl, e_⟩; replace H := H.heapEq e_; clear e_
  refine s_val rfl (x_not rfl) ?_
  refine s_val rfl (x_assign (by conv => lhs; whnf)) ?_
  refine s_end ?_
  refine WP_cond rfl (fun h1 => ?_) (fun h1 => ?_)
  · skip
    refine WP_r rfl ?_
    refine s_val rfl (x_assign (by conv => lhs; whnf)) ?_
    refine s_end ?_
    refine WP_ret ?_
    refine blockQ_r ?_
    refine thenQ_r ?_
    refine retQ_1 rfl (by conv => lhs; whnf) ?_
    have hp : ¬ x.logPlace at_ cap := by unfold D.logPlace; simp_all; omega
    unfold D.format
    rw [if_neg hp]
    exact ⟨rfl, H.unfocus hi⟩
  · skip
    refine WP_skip ?_
    refine blockQ_n ?_
    refine thenQ_n ?_
    refine WP_r rfl ?_
    refine s_val rfl (x_move (by conv => lhs; whnf)) ?_
    refine s_val rfl (x_move (by conv => lhs; whnf)) ?_
    refine s_call rfl (by kernel_rfl) (empty_calls H hh at_ 0 (by decide) (fun _ => emp) emp) rfl rfl ?_
    clear H
    rintro _ _ ⟨a, n, c, sts, rfl, rfl, hst, hstp, H⟩
    simp only [List.cons_append, List.nil_append] at H
    have hsl : sts.length = 2 := by rw [← List.length_map (f := St.st), hst]; rfl
    refine s_call rfl (by kernel_rfl) (run_calls (y := (x, 0)) hstp hB1 hB (by omega) (H.re 2 6 [0, 4, 5, 2, 3, 1] (by kernel_rfl))) rfl rfl ?_
    clear H
    rintro _ _ ⟨rfl, H⟩
    refine s_val rfl (x_assign (by conv => lhs; whnf)) ?_
    refine s_end ?_
    refine WP_ret ?_
    refine retQ_1 rfl (by conv => lhs; whnf) ?_
    have hp : x.logPlace at_ cap := by unfold D.logPlace; simp_all
    unfold D.format
    rw [if_pos hp, hst]
    rw [hst] at H
    exact ⟨rfl, (H.re 0 2 [0, 5, 1, 2, 3, 4] (by kernel_rfl)).unfocus hi⟩
theorem Check_calls {w : World} (hh : Half w) {d : Nat} {x : D} (h : HoldD w d x) (at_ cap : Int) :
    Calls Tryd.prog 9 #[dp d, .int .i64 at_, .int .i64 cap] w (Ret fun v w' => ∃ (ia : Option Addr) (hn hc : Nat), v = .tuple #[.slice ia hn hc, .int .i64 (x.logged at_ cap).e] ∧ Sat w w' [slo 3 1 ia hn hc ((x.logged at_ cap).homes.map natV)]) := by
  refine calls_of Tryd.func9 rfl rfl ?_
  refine WP_r rfl ?_
  refine s_val rfl (x_assign (by conv => lhs; whnf)) ?_
  refine s_val rfl (x_assign (by conv => lhs; whnf)) ?_
  refine s_end ?_
  refine WP_r rfl ?_
  refine s_val rfl (x_move (by conv => lhs; whnf)) ?_
  refine s_val rfl (x_move (by conv => lhs; whnf)) ?_
  refine s_val rfl (x_move (by conv => lhs; whnf)) ?_
  refine s_call rfl (by kernel_rfl) (read_calls hh h at_ cap) rfl rfl ?_
  rintro _ _ ⟨ia, hn, hc, da, dn, dc, rfl, H⟩
  refine s_val rfl (x_move (by conv => lhs; whnf)) ?_
  refine s_val rfl (x_extract rfl rfl) ?_
  refine s_val rfl (x_extract rfl rfl) ?_
  refine s_allocA rfl (show ZeroT Tryd.prog 62 (.agg #[.int .i64 0, .slice none 0 0, .slice none 0 0]) by unfold ZeroT; kernel_rfl) H ?_
  clear H; intro b8 _ H
  simp only [List.cons_append, List.nil_append] at H
  refine s_storeAll rfl (n := 3) (by kernel_rfl) rfl rfl rfl (lcells_one _ _ _ _ _ _ _) H (i := 2) rfl rfl ?_
  clear H; intro _ H
  simp only [List.set_cons_zero, List.set_cons_succ] at H
  refine s_val rfl (x_assign (by conv => lhs; whnf)) ?_
  refine s_end ?_
  refine WP_r rfl ?_
  refine s_val rfl (x_field (off := 1) (by kernel_rfl) rfl) ?_
  refine s_val rfl (x_load (by kernel_rfl) rfl (by first | assumption | exact H.cell (i := 0) rfl rfl | exact H.cell (i := 1) rfl rfl | exact H.cell (i := 2) rfl rfl | exact H.cell (i := 3) rfl rfl | exact H.cell (i := 4) rfl rfl | exact H.cell (i := 5) rfl rfl | exact H.cell (i := 6) rfl rfl | exact H.cell (i := 7) rfl rfl | exact H.cell (i := 8) rfl rfl | exact H.cell (i := 9) rfl rfl | exact H.cell (i := 10) rfl rfl | exact H.cell (i := 11) rfl rfl)) ?_
  refine s_val rfl (x_move (by conv => lhs; whnf)) ?_
  refine s_val rfl (x_assign (by conv => lhs; whnf)) ?_
  refine s_val rfl (x_assign (by conv => lhs; whnf)) ?_
  refine s_end ?_
  refine WP_ret ?_
  refine retQ_2 rfl (by conv => lhs; whnf) (by conv => lhs; whnf) ?_
  exact ⟨ia, hn, hc, rfl, H.re 0 1 [0, 1, 2] (by kernel_rfl)⟩
/-- A log in memory. -/
def WALb (v d : Nat) (at_ most turn : Int) (off : Bool) : HP := blk v (.cells [dp d, .int .i64 at_, .int .i64 most, .int .i64 turn, .bool off].toArray 27 (0, 0))
def D.openD (x : D) (at_ cap : Int) : Int × D :=
  if (x.logged at_ cap).e ≠ 0 then ((x.logged at_ cap).e, x) else if (x.logged at_ cap).homes = [] then (0, x) else
  ((runSt (homeS at_ (x.logged at_ cap).turn (x.logged at_ cap).homes (x.logged at_ cap).data) (x, 0)).1, (runSt (homeS at_ (x.logged at_ cap).turn (x.logged at_ cap).homes (x.logged at_ cap).data) (x, 0)).2.1)
theorem Open_calls {w0 w : World} {L : List HP} {i d B : Nat} {x : D} (H0 : Sat w0 w L) (hi : L[i]? = some (DK d x)) (hh : Half w0) (at_ cap : Int) (hB1 : 1 ≤ B) (hB : SmallV B x.vals) (hb : B < 1000000000000) :
    Calls Tryd.prog 8 #[dp d, .int .i64 at_, .int .i64 cap] w (Ret fun v w' => ∃ p, v = .tuple #[p, .int .i64 (x.openD at_ cap).1] ∧ ((x.openD at_ cap).1 ≠ 0 → p = .pointer none ∧ Sat w0 w' (L.set i (DK d (x.openD at_ cap).2))) ∧
      ((x.openD at_ cap).1 = 0 → ∃ v, p = pp v ∧ Sat w0 w' (L.set i (DK d (x.openD at_ cap).2) ++ [WALb v d at_ cap (x.logged at_ cap).turn false]))) := by
  have H := H0.focus hi
  have hok := (H.hd (i := 0) rfl).ok
  refine calls_of Tryd.func8 rfl rfl ?_
  refine WP_r rfl ?_
  refine s_val rfl (x_assign (by conv => lhs; whnf)) ?_
  refine s_val rfl (x_assign (by conv => lhs; whnf)) ?_
  refine s_end ?_
  refine WP_r rfl ?_
  refine s_val rfl (x_move (by conv => lhs; whnf)) ?_
  refine s_val rfl (x_move (by conv => lhs; whnf)) ?_
  refine s_val rfl (x_move (by conv => lhs; whnf)) ?_
  refine s_call rfl (by kernel_rfl) (read_calls (hh.ext H.ext) (H.hd (i := 0) rfl) at_ cap) rfl rfl ?_
  rintro _ _ ⟨ia, hn, hc, da, dn, dc, rfl, H_⟩
  replace H := H.more H_
  clear H_
  simp only [List.cons_append, List.nil_append] at H
  have hhl : (x.logged at_ cap).homes.length = hn := by have := (H.rd (i := 2) rfl).1; rw [List.length_map] at this; omega
  refine s_val rfl (x_move (by conv => lhs; whnf)) ?_
  refine s_val rfl (x_extract rfl rfl) ?_
  refine s_val rfl (x_extract rfl rfl) ?_
  refine s_allocA rfl (show ZeroT Tryd.prog 62 (.agg #[.int .i64 0, .slice none 0 0, .slice none 0 0]) by unfold ZeroT; kernel_rfl) H ?_
  clear H; intro b8 _ H
  simp only [List.cons_append, List.nil_append] at H
  refine s_storeAll rfl (n := 3) (by kernel_rfl) rfl rfl rfl (lcells_one _ _ _ _ _ _ _) H (i := 4) rfl rfl ?_
  clear H; intro _ H
  simp only [List.set_cons_zero, List.set_cons_succ] at H
  refine s_val rfl (x_assign (by conv => lhs; whnf)) ?_
  refine s_end ?_
  refine WP_meetA (α := Unit) (fun _ => [(0, dp d), (1, .int .i64 at_), (2, .int .i64 cap), (8, pp b8), (9, .int .i64 (x.openD at_ cap).1)]) (fun _ w' => Sat w0 w' [DK d (x.openD at_ cap).2, stars (L.eraseIdx i), blk b8 (.cells (lcells (x.logged at_ cap).turn ia hn hc da dn dc).toArray 62 (0, 0))]) ?_ ?_
  · skip
    refine WP_r rfl ?_
    refine s_val rfl (x_move (by conv => lhs; whnf)) ?_
    refine s_val rfl (x_eql rfl rfl) ?_
    refine s_dec rfl (x_move rfl) (fun h1 => ?_) (fun h1 => ?_)
    · skip
      refine s_val rfl (x_field (off := 1) (by kernel_rfl) rfl) ?_
      refine s_val rfl (x_load (by kernel_rfl) rfl (by first | assumption | exact H.cell (i := 0) rfl rfl | exact H.cell (i := 1) rfl rfl | exact H.cell (i := 2) rfl rfl | exact H.cell (i := 3) rfl rfl | exact H.cell (i := 4) rfl rfl | exact H.cell (i := 5) rfl rfl | exact H.cell (i := 6) rfl rfl | exact H.cell (i := 7) rfl rfl | exact H.cell (i := 8) rfl rfl | exact H.cell (i := 9) rfl rfl | exact H.cell (i := 10) rfl rfl | exact H.cell (i := 11) rfl rfl)) ?_
      refine s_val rfl (x_lenS (by kernel_rfl) rfl) ?_
      refine s_val rfl (x_gtr rfl rfl) ?_
      refine s_val rfl (x_pick_true rfl (by conv => lhs; whnf)) ?_
      refine s_end ?_
      refine WP_cond_dec rfl (fun h2 => ?_) (fun h2 => ?_)
      · skip
        have he0 : (x.logged at_ cap).e = 0 := by assumption
        have hlo := logged_ok hok he0
        have hdl := hlo.dlen
        have hcn := hlo.cnt
        have hpl := id hlo.place
        unfold D.logPlace at hpl
        have hdn := (H.rd (i := 3) rfl).1
        rw [bys_length] at hdn
        refine WP_region rfl ?_
        refine s_val rfl (x_move (by conv => lhs; whnf)) ?_
        refine s_val rfl (x_move (by conv => lhs; whnf)) ?_
        refine s_val rfl (x_loadB (by kernel_rfl) rfl H (i := 4) rfl rfl) ?_
        refine s_call rfl (by kernel_rfl) (home_calls H hh at_ (x.logged at_ cap).turn hlo.turn (H.rd (i := 2) rfl) (by omega) (by omega) (H.rd (i := 3) rfl).2.1 (fun _ => emp) (slo 5 1 da dn dc (bys (x.logged at_ cap).data)) (fun w0 w' H' => H'.rd (i := 0) rfl)) rfl rfl ?_
        clear H
        rintro _ _ ⟨a, n, c, sts, rfl, rfl, hst, hstp, H⟩
        simp only [List.cons_append, List.nil_append] at H
        have hsl : sts.length = hn + 3 := by rw [← List.length_map (f := St.st), hst, homeS_len, hhl]
        have H1 : Sat w0 _ ([DK d x, emp, slo 5 1 da dn dc (bys (x.logged at_ cap).data), stars (sts.map St.own), slo 95 1 a (hn + 3) c (sts.map St.f)] ++ [stars (L.eraseIdx i), _, _]) := H.re 1 8 [0, 7, 3, 5, 6, 1, 2, 4] (by kernel_rfl)
        refine s_call rfl (by kernel_rfl) (run_calls (y := (x, 0)) hstp hB1 hB (by omega) H1.tail) rfl rfl ?_
        clear H H1
        rintro _ _ ⟨rfl, H⟩
        rw [hst] at H ⊢
        replace H : Sat w0 _ ([_, _, _, _, _] ++ [stars (L.eraseIdx i), _, _]) := Sat.untail H
        have ho : x.openD at_ cap = ((runSt (homeS at_ (x.logged at_ cap).turn (x.logged at_ cap).homes (x.logged at_ cap).data) (x, 0)).1, (runSt (homeS at_ (x.logged at_ cap).turn (x.logged at_ cap).homes (x.logged at_ cap).data) (x, 0)).2.1) := by
          unfold D.openD
          rw [if_neg (not_not_intro he0), if_neg (fun q => by rw [q] at hhl; simp at hhl; omega)]
        refine s_val rfl (x_assign (by conv => lhs; whnf)) ?_
        refine s_end ?_
        first
          | exact thenQ_meet () ⟨rfl, rfl, rfl, rfl, by rw [ho]; rfl, trivial⟩ (by rw [ho]; exact H.re 0 3 [0, 5, 7, 1, 2, 3, 4, 6] (by kernel_rfl))
          | (have ho : x.openD at_ cap = ((x.logged at_ cap).e, x) := by
               unfold D.openD
               by_cases hq : (x.logged at_ cap).e = 0
               · rw [if_neg (not_not_intro hq), if_pos (List.length_eq_zero_iff.1 (by omega)), hq]
               · rw [if_pos hq]
             exact thenQ_meet () ⟨rfl, rfl, rfl, rfl, by rw [ho]; rfl, trivial⟩ (by rw [ho]; exact H.re 0 3 [0, 1, 4, 2, 3] (by kernel_rfl)))
      · skip
        refine WP_skip ?_
        first
          | exact thenQ_meet () ⟨rfl, rfl, rfl, rfl, by rw [ho]; rfl, trivial⟩ (by rw [ho]; exact H.re 0 3 [0, 5, 7, 1, 2, 3, 4, 6] (by kernel_rfl))
          | (have ho : x.openD at_ cap = ((x.logged at_ cap).e, x) := by
               unfold D.openD
               by_cases hq : (x.logged at_ cap).e = 0
               · rw [if_neg (not_not_intro hq), if_pos (List.length_eq_zero_iff.1 (by omega)), hq]
               · rw [if_pos hq]
             exact thenQ_meet () ⟨rfl, rfl, rfl, rfl, by rw [ho]; rfl, trivial⟩ (by rw [ho]; exact H.re 0 3 [0, 1, 4, 2, 3] (by kernel_rfl)))
    · skip
      refine s_out rfl ?_
      refine s_out rfl ?_
      refine s_out rfl ?_
      refine s_out rfl ?_
      refine s_val rfl (x_pick_false rfl (by conv => lhs; whnf)) ?_
      refine s_end ?_
      refine WP_cond_false rfl ?_
      refine WP_skip ?_
      first
        | exact thenQ_meet () ⟨rfl, rfl, rfl, rfl, by rw [ho]; rfl, trivial⟩ (by rw [ho]; exact H.re 0 3 [0, 5, 7, 1, 2, 3, 4, 6] (by kernel_rfl))
        | (have ho : x.openD at_ cap = ((x.logged at_ cap).e, x) := by
             unfold D.openD
             by_cases hq : (x.logged at_ cap).e = 0
             · rw [if_neg (not_not_intro hq), if_pos (List.length_eq_zero_iff.1 (by omega)), hq]
             · rw [if_pos hq]
           exact thenQ_meet () ⟨rfl, rfl, rfl, rfl, by rw [ho]; rfl, trivial⟩ (by rw [ho]; exact H.re 0 3 [0, 1, 4, 2, 3] (by kernel_rfl)))
  · skip
    clear H
    intro _ ρ w9 H
    refine WP_seq ?_
    refine WP_r rfl ?_
    refine s_val rfl (x_move (by conv => lhs; whnf)) ?_
    refine s_val rfl (x_neq rfl rfl) ?_
    refine s_end ?_
    refine WP_cond_dec rfl (fun h3 => ?_) (fun h3 => ?_)
    · skip
      refine WP_r rfl ?_
      refine s_val rfl (x_move (by conv => lhs; whnf)) ?_
      refine s_val rfl (x_assign (by conv => lhs; whnf)) ?_
      refine s_val rfl (x_assign (by conv => lhs; whnf)) ?_
      refine s_end ?_
      refine WP_ret ?_
      refine thenQ_r ?_
      refine retQ_2 rfl (by conv => lhs; whnf) (by conv => lhs; whnf) ?_
      refine ⟨_, rfl, fun _ => ⟨rfl, (H.re 0 2 [0, 1, 2] (by kernel_rfl)).unfocus hi⟩, fun q => absurd q (by assumption)⟩
    · skip
      refine WP_skip ?_
      refine thenQ_n ?_
      refine WP_r rfl ?_
      refine s_val rfl (x_move (by conv => lhs; whnf)) ?_
      refine s_val rfl (x_move (by conv => lhs; whnf)) ?_
      refine s_val rfl (x_move (by conv => lhs; whnf)) ?_
      refine s_val rfl (x_field (off := 0) (by kernel_rfl) rfl) ?_
      refine s_val rfl (x_load (by kernel_rfl) rfl (by first | assumption | exact H.cell (i := 0) rfl rfl | exact H.cell (i := 1) rfl rfl | exact H.cell (i := 2) rfl rfl | exact H.cell (i := 3) rfl rfl | exact H.cell (i := 4) rfl rfl | exact H.cell (i := 5) rfl rfl | exact H.cell (i := 6) rfl rfl | exact H.cell (i := 7) rfl rfl | exact H.cell (i := 8) rfl rfl | exact H.cell (i := 9) rfl rfl | exact H.cell (i := 10) rfl rfl | exact H.cell (i := 11) rfl rfl)) ?_
      refine s_val rfl (x_buildE (vs := [_, _, _, _]) (show StT Tryd.prog 27 #[.pointer none, .int .i64 0, .int .i64 0, .int .i64 0, .bool false] #[(0, 1), (1, 1), (2, 1), (3, 1), (4, 1)] from ⟨by kernel_rfl, by kernel_rfl⟩) ⟨(by conv => lhs; whnf), (by conv => lhs; whnf), (by conv => lhs; whnf), (by conv => lhs; whnf), trivial⟩ (show _ = some [_, _, _, _, _] from rfl)) ?_
      refine s_boxA rfl (by conv => lhs; whnf) H ?_
      clear H; intro b39 _ H
      simp only [List.cons_append, List.nil_append] at H
      refine s_val rfl (x_assign (by conv => lhs; whnf)) ?_
      refine s_val rfl (x_assign (by conv => lhs; whnf)) ?_
      refine s_end ?_
      refine WP_ret ?_
      refine retQ_2 rfl (by conv => lhs; whnf) (by conv => lhs; whnf) ?_
      have he : (x.openD at_ cap).1 = 0 := Classical.byContradiction (by assumption)
      refine ⟨_, by rw [he], fun q => absurd he q, fun _ => ⟨b39, rfl, ?_⟩⟩
      exact (H.re 0 3 [0, 1, 3, 2] (by kernel_rfl)).unfocusN hi
end Go.Sl
/- Blocks, cloned and sorted. -/
namespace Go.Sl
open Go.Proofs Go.Shelf Go.RowKit Go.Lib Go.Sort

/-- A block: its sector, the slice that is to stand there, its bytes. -/
structure Bk where
  at_ : Int
  a : Option Addr
  n : Nat
  cap : Nat
  bs : List UInt8
instance : Inhabited Bk := ⟨⟨0, none, 0, 0, []⟩⟩
def Bk.cells (b : Bk) : List Value := [.int .i64 b.at_, .slice b.a b.n b.cap]
def bkCells (l : List Bk) : List Value := l.flatMap Bk.cells
theorem bkCells_len (l : List Bk) : (bkCells l).length = l.length * 2 := by
  induction l with
  | nil => rfl
  | cons b l ih => unfold bkCells at ih ⊢; rw [List.flatMap_cons, List.length_append, ih, List.length_cons]; show 2 + l.length * 2 = _; omega
theorem bkCells_one (l : List Bk) : ∀ u ∈ bkCells l, u.oneCell' = true := fun u hu => by
  obtain ⟨b, _, hb⟩ := List.mem_flatMap.1 hu
  simp only [Bk.cells, List.mem_cons, List.not_mem_nil, or_false] at hb
  rcases hb with rfl | rfl <;> rfl
theorem bkCells_get : ∀ (l : List Bk) (k : Nat) (b : Bk) (j : Nat), l[k]? = some b → j < 2 → (bkCells l)[k * 2 + j]? = b.cells[j]? := by
  intro l
  induction l with
  | nil => intro k b j h; simp at h
  | cons c l ih =>
    intro k b j h hj
    have e : bkCells (c :: l) = c.cells ++ bkCells l := rfl
    rw [e]
    cases k with
    | zero =>
      simp at h; subst h
      rw [Nat.zero_mul, Nat.zero_add, List.getElem?_append_left (by show j < 2; exact hj)]
    | succ k =>
      rw [List.getElem?_append_right (by show 2 ≤ _; omega), show (k + 1) * 2 + j - c.cells.length = k * 2 + j by show (k + 1) * 2 + j - 2 = _; omega]
      exact ih k b j (by simpa using h) hj
theorem bkCells_take (l : List Bk) (k : Nat) (b : Bk) (h : l[k]? = some b) : ((bkCells l).drop (k * 2)).take 2 = b.cells := by
  apply List.ext_getElem?
  intro j
  rw [List.getElem?_take]
  by_cases hj : j < 2
  · rw [if_pos hj, List.getElem?_drop, bkCells_get l k b j h hj]
  · rw [if_neg hj, List.getElem?_eq_none (by show 2 ≤ j; omega)]
theorem zBk : ∃ z, ZeroT Tryd.prog 48 z ∧ z.cells.size = 2 := ⟨_, (show ZeroT Tryd.prog 48 (.agg #[.int .i64 0, .slice none 0 0]) by unfold ZeroT; kernel_rfl), rfl⟩
theorem CloneK_calls {w : World} {a : Option Addr} {n cap : Nat} {l : List Bk} (HR : Rd w a n cap 2 (bkCells l)) (hn : n ≤ 1000000000000) :
    Calls Tryd.prog 35 #[.slice a n cap] w (Ret fun v w' => ∃ a' cap', v = .slice a' n cap' ∧ Sat w w' [slo 48 2 a' n cap' (bkCells l)]) := by
  have hl : l.length = n := by have := HR.1; rw [bkCells_len] at this; omega
  refine calls_of Tryd.func35 rfl rfl ?_
  refine WP_r rfl ?_
  refine s_val rfl (x_assign (by conv => lhs; whnf)) ?_
  refine s_end ?_
  refine WP_seq ?_
  refine WP_r rfl ?_
  refine s_val rfl (x_move (by conv => lhs; whnf)) ?_
  refine s_val rfl (x_eqlSlNil (by kernel_rfl) rfl) ?_
  refine s_end ?_
  refine WP_cond rfl (fun h1 => ?_) (fun h1 => ?_)
  · skip
    refine WP_r rfl ?_
    refine s_val rfl (x_assign (by conv => lhs; whnf)) ?_
    refine s_end ?_
    refine WP_ret ?_
    refine thenQ_r ?_
    refine retQ_1 rfl (by conv => lhs; whnf) ?_
    have ha : a = none := by simpa using h1
    have h0 : n = 0 := by
      rcases Nat.eq_zero_or_pos n with q | q
      · exact q
      · obtain ⟨b, off, hb, _⟩ := HR.2.2 q
        rw [ha] at hb; cases hb
    subst h0
    have hbs : l = [] := List.length_eq_zero_iff.1 hl
    subst hbs
    exact ⟨none, 0, rfl, (Sat.nil (Ext.refl w)).addNil _ _⟩
  · skip
    refine WP_skip ?_
    refine thenQ_n ?_
    refine WP_r rfl ?_
    refine s_buildSlice (vs := []) rfl (show SlT Tryd.prog 35 48 2 32 from ⟨by kernel_rfl, by kernel_rfl⟩) zBk rfl rfl (by simp) (by decide) (Sat.nil (Ext.refl w)) ?_
    intro b w1 H
    simp only [List.nil_append, List.flatMap_nil] at H
    refine s_val rfl (x_move (by conv => lhs; whnf)) ?_
    refine s_append rfl (show SlT Tryd.prog 35 48 2 32 from ⟨by kernel_rfl, by kernel_rfl⟩) zBk ⟨_, (show SlT Tryd.prog 35 48 2 32 from ⟨by kernel_rfl, by kernel_rfl⟩).und⟩ rfl rfl H (i := 0) rfl (HR.ext H.ext) (bkCells_one _) (by omega) (by omega) ?_
    intro a' cap' w2 H2
    simp only [List.set_cons_zero, List.nil_append, Nat.zero_add] at H2
    rw [Nat.zero_add]
    refine s_val rfl (x_assign (by conv => lhs; whnf)) ?_
    refine s_end ?_
    refine WP_ret ?_
    refine retQ_1 rfl (by conv => lhs; whnf) ?_
    exact ⟨a', cap', rfl, H2⟩
def cmpI (x y : Int) : Int := if x < y then -1 else if y < x then 1 else 0
theorem isNaN_calls {w : World} (x : Int) : Calls Tryd.prog 60 #[.int .i64 x] w (Ret fun v w' => v = .bool false ∧ w' = w) := by
  refine calls_of Tryd.func60 rfl rfl ?_
  refine WP_r rfl ?_
  refine s_val rfl (x_assign (by conv => lhs; whnf)) ?_
  refine s_end ?_
  refine WP_r rfl ?_
  refine s_val rfl (x_move (by conv => lhs; whnf)) ?_
  refine s_val rfl (x_move (by conv => lhs; whnf)) ?_
  refine s_val rfl (x_neq_of rfl rfl rfl) ?_
  refine s_val rfl (x_assign (by conv => lhs; whnf)) ?_
  refine s_end ?_
  refine WP_ret ?_
  refine retQ_1 rfl (by conv => lhs; whnf) ?_
  exact ⟨rfl, rfl⟩
theorem Compare_calls {w : World} (x y : Int) : Calls Tryd.prog 38 #[.int .i64 x, .int .i64 y] w (Ret fun v w' => v = .int .i64 (cmpI x y) ∧ w' = w) := by
  refine calls_of Tryd.func38 rfl rfl ?_
  refine WP_r rfl ?_
  refine s_val rfl (x_assign (by conv => lhs; whnf)) ?_
  refine s_end ?_
  refine WP_r rfl ?_
  refine s_val rfl (x_move (by conv => lhs; whnf)) ?_
  refine s_call rfl (by kernel_rfl) (isNaN_calls x) rfl rfl ?_
  rintro _ w_ ⟨rfl, e_⟩; replace e_ := e_.symm; subst e_
  refine s_val rfl (x_assign (by conv => lhs; whnf)) ?_
  refine s_end ?_
  refine WP_r rfl ?_
  refine s_val rfl (x_move (by conv => lhs; whnf)) ?_
  refine s_call rfl (by kernel_rfl) (isNaN_calls y) rfl rfl ?_
  rintro _ w_ ⟨rfl, e_⟩; replace e_ := e_.symm; subst e_
  refine s_val rfl (x_assign (by conv => lhs; whnf)) ?_
  refine s_end ?_
  refine WP_seq ?_
  refine WP_r rfl ?_
  refine s_val rfl (x_move (by conv => lhs; whnf)) ?_
  refine s_end ?_
  refine WP_cond_false rfl ?_
  refine WP_skip ?_
  refine thenQ_n ?_
  refine WP_seq ?_
  refine WP_r rfl ?_
  refine s_val rfl (x_move (by conv => lhs; whnf)) ?_
  refine s_end ?_
  refine WP_cond_false rfl ?_
  refine WP_skip ?_
  refine thenQ_n ?_
  refine WP_seq ?_
  refine WP_r rfl ?_
  refine s_val rfl (x_move (by conv => lhs; whnf)) ?_
  refine s_val rfl (x_move (by conv => lhs; whnf)) ?_
  refine s_val rfl (x_lss rfl rfl) ?_
  refine s_end ?_
  refine WP_cond_dec rfl (fun h1 => ?_) (fun h1 => ?_)
  · skip
    refine WP_r rfl ?_
    refine s_val rfl (x_assign (by conv => lhs; whnf)) ?_
    refine s_end ?_
    refine WP_ret ?_
    refine thenQ_r ?_
    refine retQ_1 rfl (by conv => lhs; whnf) ?_
    exact ⟨by unfold cmpI; rw [if_pos (by assumption)], rfl⟩
  · skip
    refine WP_skip ?_
    refine thenQ_n ?_
    refine WP_seq ?_
    refine WP_r rfl ?_
    refine s_val rfl (x_move (by conv => lhs; whnf)) ?_
    refine s_val rfl (x_move (by conv => lhs; whnf)) ?_
    refine s_val rfl (x_gtr rfl rfl) ?_
    refine s_end ?_
    refine WP_cond_dec rfl (fun h2 => ?_) (fun h2 => ?_)
    · skip
      refine WP_r rfl ?_
      refine s_val rfl (x_assign (by conv => lhs; whnf)) ?_
      refine s_end ?_
      refine WP_ret ?_
      refine thenQ_r ?_
      refine retQ_1 rfl (by conv => lhs; whnf) ?_
      exact ⟨by unfold cmpI; rw [if_neg (by assumption), if_pos (by assumption)], rfl⟩
    · skip
      refine WP_skip ?_
      refine thenQ_n ?_
      refine WP_r rfl ?_
      refine s_val rfl (x_assign (by conv => lhs; whnf)) ?_
      refine s_end ?_
      refine WP_ret ?_
      refine retQ_1 rfl (by conv => lhs; whnf) ?_
      exact ⟨by unfold cmpI; rw [if_neg (by assumption), if_neg (by assumption)], rfl⟩
theorem x_boxW {P : Program} {ρ : Fr} {w : World} {ty t : TypeId} {x : Operand} {v : Value} (hx : ev ρ x = v) : Ev1 P (.box t x) ty ρ w (.pointer (some ⟨w.heap.size, 0, none⟩)) (w.alloc (.cells v.cells t)) := fun _ _ _ _ => by
  simp [execOp, hx, Instr.box, run_newVar]
theorem cmp_calls {w : World} (x y : Bk) : Calls Tryd.prog 37 #[.agg x.cells.toArray, .agg y.cells.toArray] w (Ret fun v w' => v = .int .i64 (cmpI x.at_ y.at_) ∧ w' = (w.alloc (.cells x.cells.toArray 48)).alloc (.cells y.cells.toArray 48)) := by
  have H := ((Sat.nil (Ext.refl w)).alloc (.cells x.cells.toArray 48)).alloc (.cells y.cells.toArray 48)
  simp only [List.nil_append, List.cons_append] at H
  refine calls_of Tryd.func37 rfl rfl ?_
  refine WP_r rfl ?_
  refine s_val rfl (x_boxW rfl) ?_
  refine s_val rfl (x_boxW rfl) ?_
  refine s_val rfl (x_assign (by conv => lhs; whnf)) ?_
  refine s_end ?_
  refine WP_r rfl ?_
  refine s_val rfl (x_field (off := 0) (by kernel_rfl) rfl) ?_
  refine s_val rfl (x_load (by kernel_rfl) rfl (by first | assumption | exact H.cell (i := 0) rfl rfl | exact H.cell (i := 1) rfl rfl | exact H.cell (i := 2) rfl rfl | exact H.cell (i := 3) rfl rfl | exact H.cell (i := 4) rfl rfl | exact H.cell (i := 5) rfl rfl | exact H.cell (i := 6) rfl rfl | exact H.cell (i := 7) rfl rfl | exact H.cell (i := 8) rfl rfl | exact H.cell (i := 9) rfl rfl | exact H.cell (i := 10) rfl rfl | exact H.cell (i := 11) rfl rfl)) ?_
  refine s_val rfl (x_field (off := 0) (by kernel_rfl) rfl) ?_
  refine s_val rfl (x_load (by kernel_rfl) rfl (by first | assumption | exact H.cell (i := 0) rfl rfl | exact H.cell (i := 1) rfl rfl | exact H.cell (i := 2) rfl rfl | exact H.cell (i := 3) rfl rfl | exact H.cell (i := 4) rfl rfl | exact H.cell (i := 5) rfl rfl | exact H.cell (i := 6) rfl rfl | exact H.cell (i := 7) rfl rfl | exact H.cell (i := 8) rfl rfl | exact H.cell (i := 9) rfl rfl | exact H.cell (i := 10) rfl rfl | exact H.cell (i := 11) rfl rfl)) ?_
  refine s_call rfl (by kernel_rfl) (Compare_calls x.at_ y.at_) rfl rfl ?_
  rintro _ w_ ⟨rfl, e_⟩; replace e_ := e_.symm; subst e_
  refine s_val rfl (x_assign (by conv => lhs; whnf)) ?_
  refine s_end ?_
  refine WP_ret ?_
  refine retQ_1 rfl (by conv => lhs; whnf) ?_
  exact ⟨rfl, rfl⟩
end Go.Sl
/- Blocks sorted by their sectors: out of the kit's own contract. -/
namespace Go.Sl
open Go.Proofs Go.Shelf Go.RowKit Go.Lib Go.Sort

theorem x_geq_false {P : Program} {ρ : Fr} {w : World} {ty t yt : TypeId} {x y : Operand} {k : IntKind} {a b : Int} (hx : ev ρ x = .int k a) (hy : ev ρ y = .int k b) (h : ¬ b ≤ a) : Ev1 P (.binOp .geq t x y yt) ty ρ w (.bool false) w := by
  have h1 := x_geq (P := P) (ty := ty) (w := w) (t := t) (yt := yt) hx hy
  rwa [decide_eq_false h] at h1
theorem ltOf_cmp (x y : Bk) : ltOf (fun x y : Bk => cmpI x.at_ y.at_) x y = decide (x.at_ < y.at_) := by
  unfold ltOf cmpI
  by_cases h1 : x.at_ < y.at_
  · simp [h1]
  · by_cases h2 : y.at_ < x.at_ <;> simp [h1, h2]
theorem swoBk : SWO (ltOf fun x y : Bk => cmpI x.at_ y.at_) where
  irrefl x := by rw [ltOf_cmp]; simp
  trans x y z h1 h2 := by rw [ltOf_cmp] at *; simp at *; omega
  ntrans x y z h1 h2 := by rw [ltOf_cmp] at *; simp at *; omega
theorem cmpLays (blk off size : Nat) (w : World) : CmpLays Tryd.prog 37 #[] Bk.cells 2 (fun x y => cmpI x.at_ y.at_) blk off size w := fun m os dk _ x y => by
  refine Calls.mono (cmp_calls x y) fun e w' h => ?_
  cases e with
  | returned v =>
    obtain ⟨rfl, rfl⟩ := h
    exact ⟨rfl, 0, _, by rw [alloc_eq_grow, alloc_eq_grow, grow_grow]; rfl⟩
  | panicked _ => exact h.elim
  | outgrown => exact h.elim
theorem flatK_cells (l : List Bk) : (flatK Bk.cells 2 l.toArray).toList = bkCells l := by
  apply List.ext_getElem?
  intro t
  by_cases ht : t < l.length * 2
  · have h1 : t / 2 < l.length := by omega
    have h2 : l[t / 2]? = some l[t / 2] := List.getElem?_eq_getElem h1
    have h3 := bkCells_get l (t / 2) _ (t % 2) h2 (Nat.mod_lt _ (by decide))
    rw [show t / 2 * 2 + t % 2 = t by omega] at h3
    have h4 : t % 2 < (l[t / 2]).cells.length := Nat.mod_lt _ (by decide)
    rw [h3, List.getElem?_eq_getElem h4]
    unfold flatK
    simp [ht, h1, h4]
  · rw [List.getElem?_eq_none (by rw [Array.length_toList, size_flatK]; simpa using ht), List.getElem?_eq_none (by rw [bkCells_len]; omega)]
/-- Blocks rise by their sectors. -/
def Sorted (l : List Bk) : Prop := l.Pairwise fun x y => x.at_ ≤ y.at_
theorem Sat.put {w0 w w' : World} {L : List HP} {i b : Nat} {o o' : Obj} (H : Sat w0 w L) (hi : L[i]? = some (blk b o)) (hz : w.heap.size ≤ w'.heap.size) (hk : ∀ k, k < w.heap.size → k ≠ b → w'.heap[k]? = w.heap[k]?) (hb : w'.heap[b]? = some o')
    (h1 : w'.os = w.os) (h2 : w'.output = w.output) (h3 : w'.tape = w.tape) : Sat w0 w' (L.set i (blk b o')) := by
  have hlt : b < w.heap.size := (Array.getElem?_eq_some_iff.1 (H.heap hi)).1
  obtain ⟨wm, hwm⟩ : ∃ wm : World, wm = { w' with heap := w'.heap.extract 0 w.heap.size } := ⟨_, rfl⟩
  have hm : ∀ k, k < w.heap.size → wm.heap[k]? = w'.heap[k]? := fun k hk => by rw [hwm]; simp [Array.getElem?_extract, hk]; omega
  have hms : wm.heap.size = w.heap.size := by rw [hwm]; simp [hz]
  have H1 : Sat w0 wm (L.set i (blk b o')) := H.set hi ⟨hms, fun k hne => by
      by_cases q : k < w.heap.size
      · rw [hm k q]; exact hk k q hne
      · rw [Array.getElem?_eq_none (by omega), Array.getElem?_eq_none (by omega)], by rw [hwm]; exact h1, by rw [hwm]; exact h2, by rw [hwm]; exact h3⟩ (by rw [hm b hlt]; exact hb)
  have H2 := H1.more (Sat.nil (w := wm) (w0 := wm) (Ext.refl wm))
  have hE : Ext wm w' := ⟨by omega, fun k hk => (hm k (by omega)).symm, by rw [hwm], by rw [hwm], by rw [hwm]⟩
  have H3 := H1.more (Sat.nil hE)
  rwa [List.append_nil] at H3
theorem SortF_pos {w0 w : World} {L : List HP} {i n cap : Nat} {a : Option Addr} {l : List Bk} (H : Sat w0 w L) (hi : L[i]? = some (slo 48 2 a n cap (bkCells l))) (h0 : 0 < n) (hn : n < 4611686018427387904) :
    Calls Tryd.prog 36 #[.slice a n cap, .func (.func 37) #[] #[]] w (Ret fun v w' => v = .tuple #[] ∧ ∃ l', l'.Perm l ∧ Sorted l' ∧ Sat w0 w' (L.set i (slo 48 2 a n cap (bkCells l')))) := by
  obtain ⟨b, xs, rfl, H1, hxs, htk, hc⟩ := H.ofSlo hi h0
  have hl : l.length = n := by
    have := (H.rd hi).1
    rw [bkCells_len] at this; omega
  have hb := H1.heap (get_set hi _)
  have hlt : b < w.heap.size := (Array.getElem?_eq_some_iff.1 hb).1
  have eg : ∀ args w, (callFunc 37 args).run Tryd.prog w = .ok (.enter 37 args) w := enters_of Tryd.func37 (by kernel_rfl) rfl
  have hH : HoldsK Bk.cells 2 w b 0 l.toArray := fun j hj => by
    rw [size_flatK] at hj
    have hj2 : j < n * 2 := by simpa [hl] using hj
    have hcell : (bkCells l)[j]? = some (flatK Bk.cells 2 l.toArray)[j]! := by
      rw [← flatK_cells]
      simp [hj, hj2, hl]
    refine ⟨?_, ?_⟩
    · rw [cell_of_row w b _ xs _ _ hb, Nat.zero_add, ← Array.getElem?_toList]
      rw [← htk, List.getElem?_take, if_pos hj2] at hcell
      exact hcell
    · exact frozen_of_row w b _ xs _ hb
  have hsz : l.toArray.size = n := by simpa using hl
  have hcon := AnyQ.slices_SortFunc Tryd.sortF 2 (fun w => (aggB_spec (w := w) (t := 48) (n := 2) (by kernel_rfl)).1) (fun w => (aggB_spec (w := w) (t := 48) (n := 2) (by kernel_rfl)).2) Bk.cells (fun _ => rfl) (fun x v hv => bkCells_one [x] v (by simpa [bkCells] using hv)) (fun x y => cmpI x.at_ y.at_) swoBk 37 #[] b 0 cap l.toArray w eg (cmpLays b 0 l.toArray.size w) hH hlt (by rw [hsz]; exact hn)
  change Calls Tryd.prog 36 _ _ _ at hcon
  rw [hsz] at hcon
  refine Calls.mono hcon fun e w' ⟨he, d', m, os, hp, hs, hw⟩ => ?_
  subst he
  have hds : d'.size = n := by rw [hp.1, hsz]
  refine ⟨rfl, d'.toList, ?_, ?_, ?_⟩
  · have h := hp.2.2
    have e1 : d'.extract 0 n = d' := by rw [← hds]; simp
    have e2 : l.toArray.extract 0 n = l.toArray := by rw [← hsz]; simp
    rw [e1, e2] at h
    exact h
  · refine List.pairwise_iff_getElem.2 fun p q h1 h2 h12 => ?_
    have h := hs p q (Nat.zero_le _) h12 (by rw [← hds, ← Array.length_toList]; exact h2)
    rw [ltOf_cmp] at h
    have g1 : d'[p]! = d'.toList[p] := by
      rw [Array.getElem!_eq_getD, Array.getD_eq_getD_getElem?, ← Array.getElem?_toList, List.getElem?_eq_getElem h1]; rfl
    have g2 : d'[q]! = d'.toList[q] := by
      rw [Array.getElem!_eq_getD, Array.getD_eq_getD_getElem?, ← Array.getElem?_toList, List.getElem?_eq_getElem h2]; rfl
    rw [g1, g2] at h
    simp at h
    simpa using h
  · have hfl : (flatK Bk.cells 2 d').toList = bkCells d'.toList := by
      have := flatK_cells d'.toList
      rwa [Array.toArray_toList] at this
    have hfs : (flatK Bk.cells 2 d').size = n * 2 := by rw [size_flatK, hds]
    obtain ⟨F, hF⟩ : ∃ F, flatK Bk.cells 2 d' = F := ⟨_, rfl⟩
    rw [hF] at hfl hfs
    have hw2 : w' = grow (mapBlock (Sort.ahead w m) b (putCells id 0 F)) os := by rw [hw, ← hF]; rfl
    have hmb : (mapBlock (Sort.ahead w m) b (putCells id 0 F)).heap = w.heap.modify b (onCells (putCells id 0 F)) := rfl
    have hbx : (mapBlock (Sort.ahead w m) b (putCells id 0 F)).heap[b]? = some (.cells (putCells id 0 F xs) 48 (0, 0)) := by
      rw [hmb, Array.getElem?_modify, if_pos rfl, hb]; rfl
    have hms : (mapBlock (Sort.ahead w m) b (putCells id 0 F)).heap.size = w.heap.size := by rw [hmb]; simp
    have H2 := H1.put (w' := w') (o' := .cells (putCells id 0 F xs) 48 (0, 0)) (get_set hi _) (by rw [hw2]; show _ ≤ ((mapBlock (Sort.ahead w m) b (putCells id 0 F)).heap ++ os).size; rw [Array.size_append, hms]; omega)
      (fun k hk hne => by
        rw [hw2, heap_grow_old _ _ (by rw [hms]; exact hk), hmb, Array.getElem?_modify, if_neg (Ne.symm hne)])
      (by rw [hw2, heap_grow_old _ _ (by rw [hms]; exact hlt)]; exact hbx) (by rw [hw2]; rfl) (by rw [hw2]; rfl) (by rw [hw2]; rfl)
    rw [set_set] at H2
    have H3 := H2.toSlo (i := i) (n := n) (cap := cap) (sz := 2) (cs := bkCells d'.toList) (get_set hi _) hc (by unfold putCells; rw [Array.size_mapIdx]; exact hxs) (by
      rw [← hfl]
      apply List.ext_getElem?
      intro j
      rw [List.getElem?_take]
      unfold putCells
      by_cases hj : j < n * 2
      · rw [if_pos hj]
        have hjx : j < xs.size := by rw [hxs]; omega
        have hjF : j < F.size := by omega
        simp [hjx, hjF]
      · rw [if_neg hj, List.getElem?_eq_none (by rw [Array.length_toList]; omega)])
    rw [set_set] at H3
    exact H3
theorem Len64_0 {w : World} : Calls Tryd.prog 81 #[.int .u64 0] w (Ret fun v w' => v = .int .i64 0 ∧ w' = w) := by
  refine calls_of Tryd.func81 rfl rfl ?_
  refine WP_r rfl ?_
  refine s_val rfl (x_assign (by conv => lhs; whnf)) ?_
  refine s_end ?_
  refine WP_seq ?_
  refine WP_r rfl ?_
  refine s_val rfl (x_move (by conv => lhs; whnf)) ?_
  refine s_val rfl (x_geq_false rfl rfl (by decide)) ?_
  refine s_end ?_
  refine WP_cond_false rfl ?_
  refine WP_skip ?_
  refine thenQ_n ?_
  refine WP_seq ?_
  refine WP_r rfl ?_
  refine s_val rfl (x_move (by conv => lhs; whnf)) ?_
  refine s_val rfl (x_geq_false rfl rfl (by decide)) ?_
  refine s_end ?_
  refine WP_cond_false rfl ?_
  refine WP_skip ?_
  refine thenQ_n ?_
  refine WP_seq ?_
  refine WP_r rfl ?_
  refine s_val rfl (x_move (by conv => lhs; whnf)) ?_
  refine s_val rfl (x_geq_false rfl rfl (by decide)) ?_
  refine s_end ?_
  refine WP_cond_false rfl ?_
  refine WP_skip ?_
  refine thenQ_n ?_
  refine WP_r rfl ?_
  refine s_val rfl (x_move (by conv => lhs; whnf)) ?_
  refine s_val rfl (x_move (by conv => lhs; whnf)) ?_
  refine s_val rfl (x_convI (q := .u64) (k' := .u8) (by kernel_rfl) (by kernel_rfl) rfl) ?_
  rw [show IntKind.u8.wrap 0 = 0 from rfl]
  refine s_val rfl (x_indexStr (b := 0) (by kernel_rfl) rfl rfl (by decide) (by kernel_rfl)) ?_
  refine s_val rfl (x_convI (q := .u8) (k' := .i64) (by kernel_rfl) (by kernel_rfl) rfl) ?_
  rw [show IntKind.i64.wrap ((0 : UInt8).toNat : Int) = 0 from rfl]
  refine s_val rfl (x_addi rfl rfl (by omega)) ?_
  refine s_val rfl (x_assign (by conv => lhs; whnf)) ?_
  refine s_end ?_
  refine WP_ret ?_
  refine retQ_1 rfl (by conv => lhs; whnf) ?_
  exact ⟨rfl, rfl⟩
theorem Len_0 {w : World} : Calls Tryd.prog 59 #[.int .u64 0] w (Ret fun v w' => v = .int .i64 0 ∧ w' = w) := by
  refine calls_of Tryd.func59 rfl rfl ?_
  refine WP_r rfl ?_
  refine s_val rfl (x_assign (by conv => lhs; whnf)) ?_
  refine s_end ?_
  refine WP_seq ?_
  refine WP_cond_false rfl ?_
  refine WP_skip ?_
  refine thenQ_n ?_
  refine WP_r rfl ?_
  refine s_val rfl (x_move (by conv => lhs; whnf)) ?_
  refine s_call rfl (by kernel_rfl) (Len64_0) rfl rfl ?_
  rintro _ w_ ⟨rfl, e_⟩; replace e_ := e_.symm; subst e_
  refine s_val rfl (x_assign (by conv => lhs; whnf)) ?_
  refine s_end ?_
  refine WP_ret ?_
  refine retQ_1 rfl (by conv => lhs; whnf) ?_
  exact ⟨rfl, rfl⟩
theorem ins_0 {w : World} {x : Value} (g : Value) : Calls Tryd.prog 72 #[x, .int .i64 0, .int .i64 0, g] w (Ret fun v w' => v = .tuple #[] ∧ w' = w) := by
  refine calls_of Tryd.func72 rfl rfl ?_
  refine WP_r rfl ?_
  refine s_val rfl (x_move (by conv => lhs; whnf)) ?_
  refine s_val rfl (x_addi rfl rfl (by omega)) ?_
  refine s_val rfl (x_assign (by conv => lhs; whnf)) ?_
  refine s_end ?_
  refine WP_block ?_
  refine WP_loopA (α := Unit) (fun _ => [(2, .int .i64 0), (8, .int .i64 1)]) (fun _ w' => w' = w) (fun _ => 0) () ⟨rfl, rfl, trivial⟩ rfl ?_
  rintro _ ρ w1 e1
  replace e1 := e1.symm
  subst e1
  refine WP_seq ?_
  refine WP_r rfl ?_
  refine s_val rfl (x_move (by conv => lhs; whnf)) ?_
  refine s_val rfl (x_move (by conv => lhs; whnf)) ?_
  refine s_val rfl (x_lss rfl rfl) ?_
  refine s_end ?_
  refine WP_cond_dec rfl (fun h1 => ?_) (fun h1 => ?_)
  · exact absurd h1 (by decide) --done
  · skip
    refine WP_exit ?_
    refine thenQ_e ?_
    refine loopQ_e ?_
    refine blockQ_hit ?_
    refine retQ_0n rfl ?_
    exact ⟨rfl, rfl⟩
theorem x_leq_true {P : Program} {ρ : Fr} {w : World} {ty t yt : TypeId} {x y : Operand} {k : IntKind} {a b : Int} (hx : ev ρ x = .int k a) (hy : ev ρ y = .int k b) (h : a ≤ b) : Ev1 P (.binOp .leq t x y yt) ty ρ w (.bool true) w := by
  have h1 := x_leq (P := P) (ty := ty) (w := w) (t := t) (yt := yt) hx hy
  rwa [decide_eq_true h] at h1
theorem pdq_0 {w : World} {x : Value} (g : Value) : Calls Tryd.prog 58 #[x, .int .i64 0, .int .i64 0, .int .i64 0, g] w (Ret fun v w' => v = .tuple #[] ∧ w' = w) := by
  refine calls_of Tryd.func58 rfl rfl ?_
  refine WP_r rfl ?_
  refine s_val rfl (x_assign (by conv => lhs; whnf)) ?_
  refine s_end ?_
  refine WP_r rfl ?_
  refine s_val rfl (x_assign (by conv => lhs; whnf)) ?_
  refine s_end ?_
  refine WP_block ?_
  refine WP_loopA (α := Unit) (fun _ => [(0, x), (1, .int .i64 0), (2, .int .i64 0), (3, .int .i64 0), (4, g)]) (fun _ w' => w' = w) (fun _ => 0) () ⟨rfl, rfl, rfl, rfl, rfl, trivial⟩ rfl ?_
  rintro _ ρ w1 e1
  replace e1 := e1.symm
  subst e1
  refine WP_block ?_
  refine WP_r rfl ?_
  refine s_val rfl (x_move (by conv => lhs; whnf)) ?_
  refine s_val rfl (x_move (by conv => lhs; whnf)) ?_
  refine s_val rfl (x_subi rfl rfl (by omega)) ?_
  refine s_val rfl (x_assign (by conv => lhs; whnf)) ?_
  refine s_end ?_
  refine WP_seq ?_
  refine WP_r rfl ?_
  refine s_val rfl (x_move (by conv => lhs; whnf)) ?_
  refine s_val rfl (x_leq_true rfl rfl (by decide)) ?_
  refine s_end ?_
  refine WP_cond_true rfl ?_
  refine WP_r rfl ?_
  refine s_val rfl (x_move (by conv => lhs; whnf)) ?_
  refine s_val rfl (x_move (by conv => lhs; whnf)) ?_
  refine s_val rfl (x_move (by conv => lhs; whnf)) ?_
  refine s_val rfl (x_move (by conv => lhs; whnf)) ?_
  refine s_call rfl (by kernel_rfl) (ins_0 g) rfl rfl ?_
  rintro _ w_ ⟨rfl, e_⟩; replace e_ := e_.symm; subst e_
  refine s_end ?_
  refine WP_ret ?_
  refine thenQ_r ?_
  refine blockQ_r ?_
  refine loopQ_r ?_
  refine blockQ_r ?_
  refine retQ_0 rfl  ?_
  exact ⟨rfl, rfl⟩
theorem SortF_0 {w : World} {a : Option Addr} {cap : Nat} (g : Value) : Calls Tryd.prog 36 #[.slice a 0 cap, g] w (Ret fun v w' => v = .tuple #[] ∧ w' = w) := by
  refine calls_of Tryd.func36 rfl rfl ?_
  refine WP_r rfl ?_
  refine s_val rfl (x_move (by conv => lhs; whnf)) ?_
  refine s_val rfl (x_lenS (by kernel_rfl) rfl) ?_
  refine s_val rfl (x_assign (by conv => lhs; whnf)) ?_
  refine s_end ?_
  refine WP_region rfl ?_
  refine s_val rfl (x_move (by conv => lhs; whnf)) ?_
  refine s_val rfl (x_move (by conv => lhs; whnf)) ?_
  refine s_val rfl (x_move (by conv => lhs; whnf)) ?_
  refine s_val rfl (x_convI (q := .i64) (k' := .u64) (by kernel_rfl) (by kernel_rfl) rfl) ?_
  rw [show IntKind.u64.wrap ((0 : Nat) : Int) = 0 from rfl]
  refine s_call rfl (by kernel_rfl) (Len_0) rfl rfl ?_
  rintro _ w_ ⟨rfl, e_⟩; replace e_ := e_.symm; subst e_
  refine s_val rfl (x_move (by conv => lhs; whnf)) ?_
  refine s_call rfl (by kernel_rfl) (pdq_0 g) rfl rfl ?_
  rintro _ w_ ⟨rfl, e_⟩; replace e_ := e_.symm; subst e_
  refine s_end ?_
  refine retQ_0n rfl ?_
  exact ⟨rfl, rfl⟩
theorem SortF_calls {w0 w : World} {L : List HP} {i n cap : Nat} {a : Option Addr} {l : List Bk} (H : Sat w0 w L) (hi : L[i]? = some (slo 48 2 a n cap (bkCells l))) (hn : n < 4611686018427387904) :
    Calls Tryd.prog 36 #[.slice a n cap, .func (.func 37) #[] #[]] w (Ret fun v w' => v = .tuple #[] ∧ ∃ l', l'.Perm l ∧ Sorted l' ∧ Sat w0 w' (L.set i (slo 48 2 a n cap (bkCells l')))) := by
  rcases Nat.eq_zero_or_pos n with h0 | h0
  · subst h0
    have hl : l = [] := by
      have := (H.rd hi).1
      rw [bkCells_len] at this
      exact List.length_eq_zero_iff.1 (by omega)
    subst hl
    refine Calls.mono (SortF_0 _) (Ret.mono ?_)
    rintro v w' ⟨rfl, rfl⟩
    refine ⟨rfl, [], List.Perm.refl _, List.Pairwise.nil, ?_⟩
    have : L.set i (slo 48 2 a 0 cap (bkCells [])) = L := by
      obtain ⟨hlt, he⟩ := List.getElem?_eq_some_iff.1 hi
      rw [← he]; simp
    rw [this]; exact H
  · exact SortF_pos H hi h0 hn
end Go.Sl
/- A log's small functions; a commit's steps. -/
namespace Go.Sl
open Go.Proofs

theorem wis_calls {w : World} {v d : Nat} (c0 : w.cell? ⟨v, 0, none⟩ = some (dp d)) : Calls Tryd.prog 34 #[pp v] w (Ret fun r w' => r = .bool true ∧ w' = w) := by
  refine calls_of Tryd.func34 rfl rfl ?_
  refine WP_r rfl ?_
  refine s_val rfl (x_assign (by conv => lhs; whnf)) ?_
  refine s_end ?_
  refine WP_r rfl ?_
  refine s_val rfl (x_move (by conv => lhs; whnf)) ?_
  refine s_val rfl (x_neqPtrNil (by kernel_rfl) rfl) ?_
  refine s_val rfl (x_move (by conv => lhs; whnf)) ?_
  refine s_val rfl (x_move (by conv => lhs; whnf)) ?_
  refine s_val rfl (x_nilCheck rfl) ?_
  refine s_val rfl (x_field (off := 0) (by kernel_rfl) rfl) ?_
  refine s_val rfl (x_load (by kernel_rfl) rfl (by first | assumption | exact H.cell (i := 0) rfl rfl | exact H.cell (i := 1) rfl rfl | exact H.cell (i := 2) rfl rfl | exact H.cell (i := 3) rfl rfl | exact H.cell (i := 4) rfl rfl | exact H.cell (i := 5) rfl rfl | exact H.cell (i := 6) rfl rfl | exact H.cell (i := 7) rfl rfl | exact H.cell (i := 8) rfl rfl | exact H.cell (i := 9) rfl rfl | exact H.cell (i := 10) rfl rfl | exact H.cell (i := 11) rfl rfl)) ?_
  refine s_val rfl (x_neqPtrNil (by kernel_rfl) rfl) ?_
  refine s_val rfl (x_pick_true rfl (by conv => lhs; whnf)) ?_
  refine s_val rfl (x_assign (by conv => lhs; whnf)) ?_
  refine s_end ?_
  refine WP_ret ?_
  refine retQ_1 rfl (by conv => lhs; whnf) ?_
  exact ⟨rfl, rfl⟩
/-- A log that no call made. -/
def NoW (w : World) (p : Value) : Prop := p = .pointer none ∨ ∃ v, p = pp v ∧ w.cell? ⟨v, 0, none⟩ = some (.pointer none)
theorem NoW.ext {w w' : World} {p : Value} (h : NoW w p) (e : Ext w w') : NoW w' p := by
  rcases h with h | ⟨v, h1, h2⟩
  · exact .inl h
  · exact .inr ⟨v, h1, e.cell h2⟩
theorem wis_nil {w : World} : Calls Tryd.prog 34 #[.pointer none] w (Ret fun r w' => r = .bool false ∧ w' = w) := by
  refine calls_of Tryd.func34 rfl rfl ?_
  refine WP_r rfl ?_
  refine s_val rfl (x_assign (by conv => lhs; whnf)) ?_
  refine s_end ?_
  refine WP_r rfl ?_
  refine s_val rfl (x_move (by conv => lhs; whnf)) ?_
  refine s_val rfl (x_neqPtrNil (by kernel_rfl) rfl) ?_
  refine s_val rfl (x_move (by conv => lhs; whnf)) ?_
  refine s_out rfl ?_
  refine s_out rfl ?_
  refine s_out rfl ?_
  refine s_out rfl ?_
  refine s_out rfl ?_
  refine s_val rfl (x_pick_false rfl (by conv => lhs; whnf)) ?_
  refine s_val rfl (x_assign (by conv => lhs; whnf)) ?_
  refine s_end ?_
  refine WP_ret ?_
  refine retQ_1 rfl (by conv => lhs; whnf) ?_
  exact ⟨rfl, rfl⟩
theorem wis_zero {w : World} {v : Nat} (c0 : w.cell? ⟨v, 0, none⟩ = some (.pointer none)) : Calls Tryd.prog 34 #[pp v] w (Ret fun r w' => r = .bool false ∧ w' = w) := by
  refine calls_of Tryd.func34 rfl rfl ?_
  refine WP_r rfl ?_
  refine s_val rfl (x_assign (by conv => lhs; whnf)) ?_
  refine s_end ?_
  refine WP_r rfl ?_
  refine s_val rfl (x_move (by conv => lhs; whnf)) ?_
  refine s_val rfl (x_neqPtrNil (by kernel_rfl) rfl) ?_
  refine s_val rfl (x_move (by conv => lhs; whnf)) ?_
  refine s_val rfl (x_move (by conv => lhs; whnf)) ?_
  refine s_val rfl (x_nilCheck rfl) ?_
  refine s_val rfl (x_field (off := 0) (by kernel_rfl) rfl) ?_
  refine s_val rfl (x_load (by kernel_rfl) rfl (by first | assumption | exact H.cell (i := 0) rfl rfl | exact H.cell (i := 1) rfl rfl | exact H.cell (i := 2) rfl rfl | exact H.cell (i := 3) rfl rfl | exact H.cell (i := 4) rfl rfl | exact H.cell (i := 5) rfl rfl | exact H.cell (i := 6) rfl rfl | exact H.cell (i := 7) rfl rfl | exact H.cell (i := 8) rfl rfl | exact H.cell (i := 9) rfl rfl | exact H.cell (i := 10) rfl rfl | exact H.cell (i := 11) rfl rfl)) ?_
  refine s_val rfl (x_neqPtrNil (by kernel_rfl) rfl) ?_
  refine s_val rfl (x_pick_true rfl (by conv => lhs; whnf)) ?_
  refine s_val rfl (x_assign (by conv => lhs; whnf)) ?_
  refine s_end ?_
  refine WP_ret ?_
  refine retQ_1 rfl (by conv => lhs; whnf) ?_
  exact ⟨rfl, rfl⟩
theorem wis_no {w : World} {p : Value} (h : NoW w p) : Calls Tryd.prog 34 #[p] w (Ret fun r w' => r = .bool false ∧ w' = w) := by
  rcases h with rfl | ⟨v, rfl, h⟩
  · exact wis_nil
  · exact wis_zero h
theorem Turn_no {w : World} {p : Value} (h : NoW w p) : Calls Tryd.prog 13 #[p] w (Ret fun r w' => r = .int .i64 0 ∧ w' = w) := by
  refine calls_of Tryd.func13 rfl rfl ?_
  refine WP_r rfl ?_
  refine s_val rfl (x_assign (by conv => lhs; whnf)) ?_
  refine s_end ?_
  refine WP_seq ?_
  refine WP_r rfl ?_
  refine s_val rfl (x_move (by conv => lhs; whnf)) ?_
  refine s_call rfl (by kernel_rfl) (wis_no h) rfl rfl ?_
  rintro _ w_ ⟨rfl, e_⟩; replace e_ := e_.symm; subst e_
  refine s_val rfl (x_not rfl) ?_
  refine s_end ?_
  refine WP_cond_true rfl ?_
  refine WP_r rfl ?_
  refine s_val rfl (x_assign (by conv => lhs; whnf)) ?_
  refine s_end ?_
  refine WP_ret ?_
  refine thenQ_r ?_
  refine retQ_1 rfl (by conv => lhs; whnf) ?_
  exact ⟨rfl, rfl⟩
theorem Home_no {w : World} {p : Value} (h : NoW w p) : Calls Tryd.prog 14 #[p] w (Ret fun r w' => r = .int .i64 0 ∧ w' = w) := by
  refine calls_of Tryd.func14 rfl rfl ?_
  refine WP_r rfl ?_
  refine s_val rfl (x_assign (by conv => lhs; whnf)) ?_
  refine s_end ?_
  refine WP_seq ?_
  refine WP_r rfl ?_
  refine s_val rfl (x_move (by conv => lhs; whnf)) ?_
  refine s_call rfl (by kernel_rfl) (wis_no h) rfl rfl ?_
  rintro _ w_ ⟨rfl, e_⟩; replace e_ := e_.symm; subst e_
  refine s_val rfl (x_not rfl) ?_
  refine s_end ?_
  refine WP_cond_true rfl ?_
  refine WP_r rfl ?_
  refine s_val rfl (x_assign (by conv => lhs; whnf)) ?_
  refine s_end ?_
  refine WP_ret ?_
  refine thenQ_r ?_
  refine retQ_1 rfl (by conv => lhs; whnf) ?_
  exact ⟨rfl, rfl⟩
theorem Capacity_no {w : World} {p : Value} (h : NoW w p) : Calls Tryd.prog 15 #[p] w (Ret fun r w' => r = .int .i64 0 ∧ w' = w) := by
  refine calls_of Tryd.func15 rfl rfl ?_
  refine WP_r rfl ?_
  refine s_val rfl (x_assign (by conv => lhs; whnf)) ?_
  refine s_end ?_
  refine WP_seq ?_
  refine WP_r rfl ?_
  refine s_val rfl (x_move (by conv => lhs; whnf)) ?_
  refine s_call rfl (by kernel_rfl) (wis_no h) rfl rfl ?_
  rintro _ w_ ⟨rfl, e_⟩; replace e_ := e_.symm; subst e_
  refine s_val rfl (x_not rfl) ?_
  refine s_end ?_
  refine WP_cond_true rfl ?_
  refine WP_r rfl ?_
  refine s_val rfl (x_assign (by conv => lhs; whnf)) ?_
  refine s_end ?_
  refine WP_ret ?_
  refine thenQ_r ?_
  refine retQ_1 rfl (by conv => lhs; whnf) ?_
  exact ⟨rfl, rfl⟩
theorem Commit_no {w : World} {p x : Value} (h : NoW w p) : Calls Tryd.prog 11 #[p, x] w (Ret fun r w' => r = .int .i64 1 ∧ w' = w) := by
  refine calls_of Tryd.func11 rfl rfl ?_
  refine WP_r rfl ?_
  refine s_val rfl (x_assign (by conv => lhs; whnf)) ?_
  refine s_end ?_
  refine WP_seq ?_
  refine WP_r rfl ?_
  refine s_val rfl (x_move (by conv => lhs; whnf)) ?_
  refine s_call rfl (by kernel_rfl) (wis_no h) rfl rfl ?_
  rintro _ w_ ⟨rfl, e_⟩; replace e_ := e_.symm; subst e_
  refine s_val rfl (x_not rfl) ?_
  refine s_end ?_
  refine WP_cond_true rfl ?_
  refine WP_r rfl ?_
  refine s_val rfl (x_assign (by conv => lhs; whnf)) ?_
  refine s_end ?_
  refine WP_ret ?_
  refine thenQ_r ?_
  refine retQ_1 rfl (by conv => lhs; whnf) ?_
  exact ⟨rfl, rfl⟩
/-- What a log's memory reads as. -/
structure WalRd (w : World) (v d : Nat) (at_ most turn : Int) (off : Bool) : Prop where
  c0 : w.cell? ⟨v, 0, none⟩ = some (dp d)
  c1 : w.cell? ⟨v, 1, none⟩ = some (.int .i64 at_)
  c2 : w.cell? ⟨v, 2, none⟩ = some (.int .i64 most)
  c3 : w.cell? ⟨v, 3, none⟩ = some (.int .i64 turn)
  c4 : w.cell? ⟨v, 4, none⟩ = some (.bool off)
theorem Sat.wal {w0 w : World} {L : List HP} {i v d : Nat} {at_ most turn : Int} {off : Bool} (H : Sat w0 w L) (hi : L[i]? = some (WALb v d at_ most turn off)) : WalRd w v d at_ most turn off :=
  ⟨H.cellsAt hi rfl, H.cellsAt hi rfl, H.cellsAt hi rfl, H.cellsAt hi rfl, H.cellsAt hi rfl⟩
section
variable {w w' : World} {v d : Nat} {at_ most turn : Int} {off : Bool}
theorem WalRd.ext (h : WalRd w v d at_ most turn off) (e : Ext w w') : WalRd w' v d at_ most turn off := ⟨e.cell h.c0, e.cell h.c1, e.cell h.c2, e.cell h.c3, e.cell h.c4⟩
theorem WalRd.heapEq (h : WalRd w v d at_ most turn off) (e : core w' = core w) : WalRd w' v d at_ most turn off := h.ext ((Ext.refl w).heapEq e)
theorem Turn_calls (h : WalRd w v d at_ most turn off) : Calls Tryd.prog 13 #[pp v] w (Ret fun r w' => r = .int .i64 turn ∧ w' = w) := by
  have c3 := h.c3
  refine calls_of Tryd.func13 rfl rfl ?_
  refine WP_r rfl ?_
  refine s_val rfl (x_assign (by conv => lhs; whnf)) ?_
  refine s_end ?_
  refine WP_seq ?_
  refine WP_r rfl ?_
  refine s_val rfl (x_move (by conv => lhs; whnf)) ?_
  refine s_call rfl (by kernel_rfl) (wis_calls h.c0) rfl rfl ?_
  rintro _ w_ ⟨rfl, e_⟩; replace e_ := e_.symm; subst e_
  refine s_val rfl (x_not rfl) ?_
  refine s_end ?_
  refine WP_cond_false rfl ?_
  refine WP_skip ?_
  refine thenQ_n ?_
  refine WP_r rfl ?_
  refine s_val rfl (x_move (by conv => lhs; whnf)) ?_
  refine s_val rfl (x_nilCheck rfl) ?_
  refine s_val rfl (x_field (off := 3) (by kernel_rfl) rfl) ?_
  refine s_val rfl (x_load (by kernel_rfl) rfl (by first | assumption | exact H.cell (i := 0) rfl rfl | exact H.cell (i := 1) rfl rfl | exact H.cell (i := 2) rfl rfl | exact H.cell (i := 3) rfl rfl | exact H.cell (i := 4) rfl rfl | exact H.cell (i := 5) rfl rfl | exact H.cell (i := 6) rfl rfl | exact H.cell (i := 7) rfl rfl | exact H.cell (i := 8) rfl rfl | exact H.cell (i := 9) rfl rfl | exact H.cell (i := 10) rfl rfl | exact H.cell (i := 11) rfl rfl)) ?_
  refine s_val rfl (x_assign (by conv => lhs; whnf)) ?_
  refine s_end ?_
  refine WP_ret ?_
  refine retQ_1 rfl (by conv => lhs; whnf) ?_
  exact ⟨rfl, rfl⟩
theorem Capacity_calls (h : WalRd w v d at_ most turn off) : Calls Tryd.prog 15 #[pp v] w (Ret fun r w' => r = .int .i64 most ∧ w' = w) := by
  have c2 := h.c2
  refine calls_of Tryd.func15 rfl rfl ?_
  refine WP_r rfl ?_
  refine s_val rfl (x_assign (by conv => lhs; whnf)) ?_
  refine s_end ?_
  refine WP_seq ?_
  refine WP_r rfl ?_
  refine s_val rfl (x_move (by conv => lhs; whnf)) ?_
  refine s_call rfl (by kernel_rfl) (wis_calls h.c0) rfl rfl ?_
  rintro _ w_ ⟨rfl, e_⟩; replace e_ := e_.symm; subst e_
  refine s_val rfl (x_not rfl) ?_
  refine s_end ?_
  refine WP_cond_false rfl ?_
  refine WP_skip ?_
  refine thenQ_n ?_
  refine WP_r rfl ?_
  refine s_val rfl (x_move (by conv => lhs; whnf)) ?_
  refine s_val rfl (x_nilCheck rfl) ?_
  refine s_val rfl (x_field (off := 2) (by kernel_rfl) rfl) ?_
  refine s_val rfl (x_load (by kernel_rfl) rfl (by first | assumption | exact H.cell (i := 0) rfl rfl | exact H.cell (i := 1) rfl rfl | exact H.cell (i := 2) rfl rfl | exact H.cell (i := 3) rfl rfl | exact H.cell (i := 4) rfl rfl | exact H.cell (i := 5) rfl rfl | exact H.cell (i := 6) rfl rfl | exact H.cell (i := 7) rfl rfl | exact H.cell (i := 8) rfl rfl | exact H.cell (i := 9) rfl rfl | exact H.cell (i := 10) rfl rfl | exact H.cell (i := 11) rfl rfl)) ?_
  refine s_val rfl (x_assign (by conv => lhs; whnf)) ?_
  refine s_end ?_
  refine WP_ret ?_
  refine retQ_1 rfl (by conv => lhs; whnf) ?_
  exact ⟨rfl, rfl⟩
theorem Home_calls (h : WalRd w v d at_ most turn off) (h1 : 0 ≤ at_ ∧ at_ ≤ 65536) (h2 : 0 ≤ most ∧ most ≤ 65536) : Calls Tryd.prog 14 #[pp v] w (Ret fun r w' => r = .int .i64 (at_ + most + 1) ∧ core w' = core w) := by
  refine calls_of Tryd.func14 rfl rfl ?_
  refine WP_r rfl ?_
  refine s_val rfl (x_assign (by conv => lhs; whnf)) ?_
  refine s_end ?_
  refine WP_seq ?_
  refine WP_r rfl ?_
  refine s_val rfl (x_move (by conv => lhs; whnf)) ?_
  refine s_call rfl (by kernel_rfl) (wis_calls h.c0) rfl rfl ?_
  rintro _ w_ ⟨rfl, e_⟩; replace e_ := e_.symm; subst e_
  refine s_val rfl (x_not rfl) ?_
  refine s_end ?_
  refine WP_cond_false rfl ?_
  refine WP_skip ?_
  refine thenQ_n ?_
  refine WP_rd (fun w' => core w' = core w) (.float 0 (.float 1 (.float 2 (.float 3 (.float 4 (.float 5 (.float 6 (.float 7 (.float 8 (.float 9 (.float 10 .done))))))))))) (by kernel_rfl) (by kernel_rfl) rfl ?_
  refine r_val rfl rfl (fun w hI => x_move (by conv => lhs; whnf)) ?_
  refine r_val rfl rfl (fun w hI => x_nilCheck rfl) ?_
  refine r_val rfl rfl (fun w hI => x_field (off := 1) (by kernel_rfl) rfl) ?_
  refine r_val rfl rfl (fun w hI => x_load (by kernel_rfl) rfl (by first | exact (h.heapEq hI).c1 | exact (h.heapEq hI).c2)) ?_
  refine r_val rfl rfl (fun w hI => x_move (by conv => lhs; whnf)) ?_
  refine r_val rfl rfl (fun w hI => x_nilCheck rfl) ?_
  refine r_val rfl rfl (fun w hI => x_field (off := 2) (by kernel_rfl) rfl) ?_
  refine r_val rfl rfl (fun w hI => x_load (by kernel_rfl) rfl (by first | exact (h.heapEq hI).c1 | exact (h.heapEq hI).c2)) ?_
  refine r_val rfl rfl (fun w hI => x_addi rfl rfl (by omega)) ?_
  refine r_val rfl rfl (fun w hI => x_addi rfl rfl (by omega)) ?_
  refine r_val rfl rfl (fun w hI => x_assign (by conv => lhs; whnf)) ?_
  refine r_done ?_
  refine WP_ret ?_
  refine retQ_1 rfl (by conv => lhs; whnf) ?_
  exact ⟨rfl, rfl⟩
end
theorem steps1_calls {w0 w : World} {v d p q : Nat} {X : HP} {x : D} {at_ most t0 : Int} {off : Bool} {C F : HP} {turn : Nat} {ia da : Option Addr} {hn hc dn dc : Nat}
    (H : Sat w0 w [X, WALb v d at_ most t0 off, C, F, blk p (.cells (lcells turn ia hn hc da dn dc).toArray 62 (0, 0)), blk q (.cells #[pp v] 24 (0, 0))]) :
    Calls Tryd.prog 61 #[pp p, pp q] w (Ret fun r w' => r = .int .i64 0 ∧ Sat w0 w' [X, WALb v d at_ most turn off, C, F, blk p (.cells (lcells turn ia hn hc da dn dc).toArray 62 (0, 0)), blk q (.cells #[pp v] 24 (0, 0))]) := by
  refine calls_of Tryd.func61 rfl rfl ?_
  refine WP_r rfl ?_
  refine s_val rfl (x_assign (by conv => lhs; whnf)) ?_
  refine s_end ?_
  refine WP_r rfl ?_
  refine s_val rfl (x_load (by kernel_rfl) rfl (by first | assumption | exact H.cell (i := 0) rfl rfl | exact H.cell (i := 1) rfl rfl | exact H.cell (i := 2) rfl rfl | exact H.cell (i := 3) rfl rfl | exact H.cell (i := 4) rfl rfl | exact H.cell (i := 5) rfl rfl | exact H.cell (i := 6) rfl rfl | exact H.cell (i := 7) rfl rfl | exact H.cell (i := 8) rfl rfl | exact H.cell (i := 9) rfl rfl | exact H.cell (i := 10) rfl rfl | exact H.cell (i := 11) rfl rfl)) ?_
  refine s_val rfl (x_field (off := 0) (by kernel_rfl) rfl) ?_
  refine s_val rfl (x_load (by kernel_rfl) rfl (by first | assumption | exact H.cell (i := 0) rfl rfl | exact H.cell (i := 1) rfl rfl | exact H.cell (i := 2) rfl rfl | exact H.cell (i := 3) rfl rfl | exact H.cell (i := 4) rfl rfl | exact H.cell (i := 5) rfl rfl | exact H.cell (i := 6) rfl rfl | exact H.cell (i := 7) rfl rfl | exact H.cell (i := 8) rfl rfl | exact H.cell (i := 9) rfl rfl | exact H.cell (i := 10) rfl rfl | exact H.cell (i := 11) rfl rfl)) ?_
  refine s_val rfl (x_nilCheck rfl) ?_
  refine s_val rfl (x_field (off := 3) (by kernel_rfl) rfl) ?_
  refine s_store rfl (by kernel_rfl) rfl (by conv => lhs; whnf) rfl H (i := 1) rfl rfl ?_
  clear H; intro _ H
  simp only [List.set_cons_zero, List.set_cons_succ, List.setIfInBounds_toArray] at H
  refine s_end ?_
  refine WP_r rfl ?_
  refine s_val rfl (x_assign (by conv => lhs; whnf)) ?_
  refine s_end ?_
  refine WP_ret ?_
  refine retQ_1 rfl (by conv => lhs; whnf) ?_
  exact ⟨rfl, H⟩
theorem tu_stp {v d p q : Nat} {at_ most : Int} {off : Bool} {C : HP} {turn : Nat} {ia da : Option Addr} {hn hc dn dc : Nat} :
    Stp d (fun t => WALb v d at_ most t off) C ⟨.func (.func 61) #[] #[pp p, pp q], stars [blk p (.cells (lcells turn ia hn hc da dn dc).toArray 62 (0, 0)), blk q (.cells #[pp v] 24 (0, 0))], tuS turn⟩ := by
  refine ⟨fun y B _ hB => hB.le (Nat.le_succ _), _, _, _, rfl, by kernel_rfl, fun w0 w y F B hB hb H => ?_⟩
  have H1 : Sat w0 w ([DK d y.1, WALb v d at_ most y.2 off, C, F] ++ [_, _]) := (H.re 0 5 [0, 1, 2, 4, 3] (by kernel_rfl)).untail
  refine Calls.mono (steps1_calls (x := y.1) H1) (Ret.mono fun r w' ⟨ev, H'⟩ => ⟨ev, ?_⟩)
  exact (Sat.tail (A := [_, _, _, _]) H').re 0 5 [0, 1, 2, 4, 3] (by kernel_rfl)
end Go.Sl
/- A commit's steps, as the program makes them. -/
namespace Go.Sl
open Go.Proofs

def bkHomes (l : List Bk) : List Nat := l.map fun b => b.at_.toNat
def bkData (l : List Bk) : List UInt8 := l.flatMap fun b => b.bs
def turnUp (t : Nat) : Nat := (t + 1) % 4294967296
def logS (at_ : Int) (l : List Bk) : List (WS → Int × WS) := (List.range l.length).map fun (i : Nat) => wrS (at_ + 1 + i) (l.getD i default).bs
def stepsS (at_ : Int) (t : Nat) (l : List Bk) : List (WS → Int × WS) :=
  logS at_ l ++ (syS :: wrS at_ (hdr (turnUp t) (bkHomes l) (bkData l)) :: syS :: tuS (turnUp t : Nat) :: homeS at_ (turnUp t) (bkHomes l) (bkData l))
structure BkOk (b : Bk) : Prop where
  n : b.n = 256
  len : b.bs.length = 256
  lo : 0 ≤ b.at_
  hi : b.at_ < 65536
theorem bkData_len {l : List Bk} (h : ∀ b ∈ l, BkOk b) : (bkData l).length = 256 * l.length := by
  induction l with
  | nil => rfl
  | cons b l ih =>
    unfold bkData at ih ⊢
    rw [List.flatMap_cons, List.length_append, (h b (List.mem_cons_self ..)).len, ih fun c hc => h c (List.mem_cons_of_mem _ hc), List.length_cons]; omega
theorem logS_snoc (at_ : Int) (l : List Bk) (k : Nat) (b : Bk) (h : l[k]? = some b) : (logS at_ l)[k]? = some (wrS (at_ + 1 + (k : Int)) b.bs) := by
  have hk := (List.getElem?_eq_some_iff.1 h).1
  unfold logS
  rw [List.getElem?_map, List.getElem?_range hk, Option.map_some, List.getD_eq_getElem?_getD, h]; rfl
theorem Sat.merge3 {w0 w : World} {p q : HP} {A B C : List HP} (H : Sat w0 w [p, q, stars A, stars B, stars C]) : Sat w0 w [p, stars (A ++ B ++ C), q] := by
  have H1 : Sat w0 w (A ++ [stars B, stars C, p, q]) := (H.re 0 5 [2, 3, 4, 0, 1] (by kernel_rfl)).join
  have H2 : Sat w0 w (B ++ ([stars C, p, q] ++ A)) := (H1.perm List.perm_append_comm).join
  have H3 : Sat w0 w (([stars C, p, q] ++ A) ++ B) := H2.perm List.perm_append_comm
  have H4 : Sat w0 w (C ++ ([p, q] ++ A ++ B)) := H3.join
  have H5 : Sat w0 w ([p, q] ++ (A ++ B ++ C)) := by
    have h := H4.perm List.perm_append_comm
    rwa [List.append_assoc, List.append_assoc, ← List.append_assoc A] at h
  exact H5.tail.re 0 3 [0, 2, 1] (by kernel_rfl)
theorem steps_calls {w : World} {v d : Nat} {at_ most : Int} {t : Nat} {off : Bool} (HW : WalRd w v d at_ most t off) (hh : Half w) (ht : t < 4294967296) (ha : 0 ≤ at_ ∧ at_ < 65536) {a : Option Addr} {n cap : Nat} {l : List Bk} (HK : Rd w a n cap 2 (bkCells l)) (hl : l.length = n) (hn : n ≤ 100)
    (hok : ∀ b ∈ l, BkOk b) {C : HP} (hB : ∀ b ∈ l, Rd w b.a b.n b.cap 1 (bys b.bs)) (hC : ∀ w0 w', Sat w0 w' [C] → ∀ b ∈ l, Rd w' b.a b.n b.cap 1 (bys b.bs)) :
    Calls Tryd.prog 39 #[pp v, .slice a n cap] w (Ret fun r w' => ∃ (a' : Option Addr) (n' cap' : Nat) (E : HP) (sts : List St), r = .slice a' n' cap' ∧ n' = 2 * n + 7 ∧ sts.map St.st = stepsS at_ t l ∧ (∀ s ∈ sts, Stp d (fun t => WALb v d at_ most t off) (stars [C, E]) s) ∧
      Sat w w' [E, stars (sts.map St.own), slo 95 1 a' n' cap' (sts.map St.f)]) := by
  have H := Sat.nil (Ext.refl w)
  have c0 := HW.c0
  have c1 := HW.c1
  have c3 := HW.c3
  refine calls_of Tryd.func39 rfl rfl ?_
  refine WP_r rfl ?_
  refine s_box1 rfl (by conv => lhs; whnf) rfl H ?_
  clear H; intro b2 _ H
  simp only [List.cons_append, List.nil_append] at H
  refine s_val rfl (x_assign (by conv => lhs; whnf)) ?_
  refine s_end ?_
  refine WP_r rfl ?_
  refine s_val rfl (x_load (by kernel_rfl) rfl (by first | exact hI.1 | exact hI.2 | exact hI.2.1 | exact hI.2.2 | exact hI.1.cell c0 | exact hI.1.cell c1 | exact H.cell (i := 1) rfl rfl | exact H.cell (i := 0) rfl rfl | exact H.ext.cell c3)) ?_
  refine s_val rfl (x_nilCheck rfl) ?_
  refine s_val rfl (x_field (off := 3) (by kernel_rfl) rfl) ?_
  refine s_val rfl (x_load (by kernel_rfl) rfl (by first | exact hI.1 | exact hI.2 | exact hI.2.1 | exact hI.2.2 | exact hI.1.cell c0 | exact hI.1.cell c1 | exact H.cell (i := 1) rfl rfl | exact H.cell (i := 0) rfl rfl | exact H.ext.cell c3)) ?_
  refine s_val rfl (x_convI (q := .i64) (k' := .u32) (by kernel_rfl) (by kernel_rfl) rfl) ?_
  rw [wrap_u32 _ ht]
  refine s_val rfl (x_add rfl rfl) ?_
  rw [show IntKind.u32.wrap ((t : Int) + 1) = ((turnUp t : Nat) : Int) by rw [IntKind.wrap_u32]; unfold turnUp; omega]
  refine s_val rfl (x_convI (q := .u32) (k' := .i64) (by kernel_rfl) (by kernel_rfl) rfl) ?_
  rw [IntWalk.i64_in _ (by unfold turnUp; omega)]
  refine s_val rfl (x_buildE (vs := [_]) (show StT Tryd.prog 62 #[.int .i64 0, .slice none 0 0, .slice none 0 0] #[(0, 1), (1, 1), (2, 1)] from ⟨by kernel_rfl, by kernel_rfl⟩) ⟨(by conv => lhs; whnf), trivial⟩ (show _ = some [_, _, _] from rfl)) ?_
  refine s_allocA rfl (show ZeroT Tryd.prog 62 (.agg #[.int .i64 0, .slice none 0 0, .slice none 0 0]) by unfold ZeroT; kernel_rfl) H ?_
  clear H; intro b5 _ H
  simp only [List.cons_append, List.nil_append] at H
  refine s_storeAll rfl (n := 3) (by kernel_rfl) rfl rfl rfl (by simp [Value.oneCell']) H (i := 1) rfl rfl ?_
  clear H; intro _ H
  simp only [List.set_cons_zero, List.set_cons_succ] at H
  refine s_end ?_
  refine WP_r rfl ?_
  refine s_val rfl (x_assign (by conv => lhs; whnf)) ?_
  refine s_end ?_
  refine WP_seq ?_
  refine WP_r rfl ?_
  refine s_val rfl (x_move (by conv => lhs; whnf)) ?_
  refine s_val rfl (x_lenS (by kernel_rfl) rfl) ?_
  refine s_val rfl (x_move (by conv => lhs; whnf)) ?_
  refine s_end ?_
  refine WP_block ?_
  have htu : turnUp t < 4294967296 := Nat.mod_lt _ (by decide)
  obtain ⟨tu, htue⟩ : ∃ tu, turnUp t = tu := ⟨_, rfl⟩
  rw [htue] at htu H
  replace H := Sat.tail (A := [_, _]) (B := []) H
  replace H := Sat.addNil 95 1 (Sat.addNil 5 1 (Sat.addNil 3 1 H))
  simp only [List.cons_append, List.nil_append] at H
  refine WP_loopA (α := Option Addr × Nat × Option Addr × Nat × Option Addr × Nat × List St) (fun p => [(1, .slice a n cap), (2, pp b2), (5, pp b5), (6, .slice p.1 p.2.2.2.2.2.2.length p.2.1), (18, .slice a n cap), (19, .int .i64 n), (20, .int .i64 p.2.2.2.2.2.2.length)])
    (fun p w' => p.2.2.2.2.2.2.length ≤ n ∧ p.2.2.2.2.2.2.map St.st = (logS at_ l).take p.2.2.2.2.2.2.length ∧ (∀ s ∈ p.2.2.2.2.2.2, Stp d (fun t => WALb v d at_ most t off) C s) ∧
      Sat w w' [blk b2 (.cells #[pp v] 24 (0, 0)), blk b5 (.cells (lcells tu p.2.2.1 p.2.2.2.2.2.2.length p.2.2.2.1 p.2.2.2.2.1 (256 * p.2.2.2.2.2.2.length) p.2.2.2.2.2.1).toArray 62 (0, 0)), stars (p.2.2.2.2.2.2.map St.own),
        slo 3 1 p.2.2.1 p.2.2.2.2.2.2.length p.2.2.2.1 ((bkHomes (l.take p.2.2.2.2.2.2.length)).map natV), slo 5 1 p.2.2.2.2.1 (256 * p.2.2.2.2.2.2.length) p.2.2.2.2.2.1 (bys (bkData (l.take p.2.2.2.2.2.2.length))), slo 95 1 p.1 p.2.2.2.2.2.2.length p.2.1 (p.2.2.2.2.2.2.map St.f)])
    (fun p => n - p.2.2.2.2.2.2.length) (none, 0, none, 0, none, 0, []) ⟨rfl, rfl, rfl, rfl, rfl, rfl, rfl, trivial⟩ ⟨Nat.zero_le _, rfl, (fun s hs => by cases hs), H⟩ ?_
  clear H
  rintro ⟨sa, sc, ia, hc, da, dc, sts⟩ ρ w5 ⟨hk, hst, hstp, H⟩
  dsimp only at hk hst hstp H ⊢
  refine WP_r rfl ?_
  refine s_val rfl (x_lss rfl rfl) ?_
  refine s_end ?_
  refine WP_seq ?_
  refine WP_cond_dec rfl (fun h1 => ?_) (fun h1 => ?_)
  · skip
    refine WP_skip ?_
    refine thenQ_n ?_
    refine WP_seq ?_
    refine WP_block ?_
    have HK2 := HK.ext H.ext
    obtain ⟨b, hb⟩ : ∃ b, l[sts.length]? = some b := ⟨_, List.getElem?_eq_getElem (by omega)⟩
    have hbm := List.mem_of_getElem? hb
    have hbo := hok b hbm
    have htk := bkCells_take l sts.length b hb
    have hls := logS_snoc at_ l sts.length b hb
    have hcl := bkCells_len l
    have hbn := hbo.n
    refine WP_r rfl ?_
    refine s_val rfl (x_move (by conv => lhs; whnf)) ?_
    refine s_val rfl (x_index (show SlT Tryd.prog 35 48 2 32 from ⟨by kernel_rfl, by kernel_rfl⟩) rfl rfl (by omega) (by omega) HK2) ?_
    refine s_val rfl (x_loadRA (m := 2) (by kernel_rfl) rfl HK2 (by omega) (by decide)) ?_
    rw [show (sts.length : Int).toNat * 2 = sts.length * 2 by omega, htk]
    refine s_allocA rfl (show ZeroT Tryd.prog 48 (.agg #[.int .i64 0, .slice none 0 0]) by unfold ZeroT; kernel_rfl) H ?_
    clear H; intro b8 _ H
    simp only [List.cons_append, List.nil_append] at H
    refine s_val rfl (x_assign (by conv => lhs; whnf)) ?_
    refine s_storeAll rfl (n := 2) (by kernel_rfl) rfl rfl rfl (bkCells_one [b] · <| by simpa [bkCells] using ·) H (i := 6) rfl rfl ?_
    clear H; intro _ H
    simp only [List.set_cons_zero, List.set_cons_succ] at H
    refine s_end ?_
    refine WP_meetA (α := Option Addr × Nat × Option Addr × Nat) (fun p => [(1, .slice a n cap), (2, pp b2), (5, pp b5), (6, .slice sa sts.length sc), (7, .int .i64 sts.length), (8, pp b8), (18, .slice a n cap), (19, .int .i64 n), (20, .int .i64 sts.length)])
      (fun p w' => Sat w w' [blk b2 (.cells #[pp v] 24 (0, 0)), blk b5 (.cells (lcells tu p.1 (sts.length + 1) p.2.1 p.2.2.1 (256 * sts.length + 256) p.2.2.2).toArray 62 (0, 0)), stars (sts.map St.own),
          slo 3 1 p.1 (sts.length + 1) p.2.1 ((bkHomes (l.take sts.length)).map natV ++ [.int .i64 b.at_]), slo 5 1 p.2.2.1 (256 * sts.length + 256) p.2.2.2 (bys (bkData (l.take sts.length)) ++ bys b.bs), slo 95 1 sa sts.length sc (sts.map St.f), blk b8 (.cells b.cells.toArray 48 (0, 0))]) ?_ ?_
    · skip
      refine WP_draw (fun w_ => w_.cell? ⟨b8, 0, none⟩ = some (.int .i64 b.at_) ∧ w_.cell? ⟨b8, 1, none⟩ = some (.slice b.a 256 b.cap)) (.float 0 (.float 2 (.float 3 (.float 6 (.float 8 (.float 9 (.fork [(1, .fork [(4, .fork [(5, .fork [(7, .float 11 (.fork [(10, .fork [(12, .float 13 (.fork [(14, .done)]))])]))]), (7, .fork [(5, .float 11 (.fork [(10, .fork [(12, .float 13 (.fork [(14, .done)]))])]))])]), (7, .fork [(4, .fork [(5, .float 11 (.fork [(10, .fork [(12, .float 13 (.fork [(14, .done)]))])]))])])]), (4, .fork [(1, .fork [(5, .fork [(7, .float 11 (.fork [(10, .fork [(12, .float 13 (.fork [(14, .done)]))])]))]), (7, .fork [(5, .float 11 (.fork [(10, .fork [(12, .float 13 (.fork [(14, .done)]))])]))])]), (7, .fork [(1, .fork [(5, .float 11 (.fork [(10, .fork [(12, .float 13 (.fork [(14, .done)]))])]))])])]), (7, .fork [(1, .fork [(4, .fork [(5, .float 11 (.fork [(10, .fork [(12, .float 13 (.fork [(14, .done)]))])]))])]), (4, .fork [(1, .fork [(5, .float 11 (.fork [(10, .fork [(12, .float 13 (.fork [(14, .done)]))])]))])])])]))))))) (by kernel_rfl) (by kernel_rfl) ⟨H.cellsAt (i := 6) rfl rfl, by rw [← hbn]; exact H.cellsAt (i := 6) rfl rfl⟩ ?_
      replace H := H.drew
      refine r_val rfl rfl (fun w hI => x_field (off := 1) (by kernel_rfl) rfl) ?_
      refine r_val rfl rfl (fun w hI => x_field (off := 0) (by kernel_rfl) rfl) ?_
      refine r_val rfl rfl (fun w hI => x_load (by kernel_rfl) rfl (by first | exact hI.1 | exact hI.2 | exact hI.2.1 | exact hI.2.2 | exact hI.1.cell c0 | exact hI.1.cell c1 | exact H.cell (i := 1) rfl rfl | exact H.cell (i := 0) rfl rfl | exact H.ext.cell c3)) ?_
      refine r_val rfl rfl (fun w hI => x_field (off := 2) (by kernel_rfl) rfl) ?_
      refine r_val rfl rfl (fun w hI => x_field (off := 1) (by kernel_rfl) rfl) ?_
      refine r_val rfl rfl (fun w hI => x_load (by kernel_rfl) rfl (by first | exact hI.1 | exact hI.2 | exact hI.2.1 | exact hI.2.2 | exact hI.1.cell c0 | exact hI.1.cell c1 | exact H.cell (i := 1) rfl rfl | exact H.cell (i := 0) rfl rfl | exact H.ext.cell c3)) ?_
      refine r_three rfl rfl rfl ?_ ?_ ?_
      · skip
        refine s_val rfl (x_load (by kernel_rfl) rfl (by first | exact hI.1 | exact hI.2 | exact hI.2.1 | exact hI.2.2 | exact hI.1.cell c0 | exact hI.1.cell c1 | exact H.cell (i := 1) rfl rfl | exact H.cell (i := 0) rfl rfl | exact H.ext.cell c3)) ?_
        refine s_end ?_
        refine ⟨⟨H.cellsAt (i := 6) rfl rfl, by rw [← hbn]; exact H.cellsAt (i := 6) rfl rfl⟩, ?_⟩
        refine r_two rfl rfl ?_ ?_
        · skip
          refine s_buildSliceE (vs := [_]) rfl (show SlT Tryd.prog 22 3 1 8 from ⟨by kernel_rfl, by kernel_rfl⟩) (show ∃ z, ZeroT Tryd.prog 3 z ∧ z.cells.size = 1 from ⟨_, (show ZeroT Tryd.prog 3 (.int .i64 0) by unfold ZeroT; kernel_rfl), rfl⟩) rfl ⟨(by conv => lhs; whnf), trivial⟩ rfl (by simp [Value.cells]) (by decide) H ?_
          clear H; intro b29 _ H
          simp only [List.cons_append, List.nil_append, List.flatMap_cons, List.flatMap_nil, Value.cells, List.append_nil] at H
          refine s_end ?_
          refine ⟨⟨H.cellsAt (i := 6) rfl rfl, by rw [← hbn]; exact H.cellsAt (i := 6) rfl rfl⟩, ?_⟩
          refine r_two rfl rfl ?_ ?_
          · skip
            refine s_append rfl (show SlT Tryd.prog 22 3 1 8 from ⟨by kernel_rfl, by kernel_rfl⟩) (show ∃ z, ZeroT Tryd.prog 3 z ∧ z.cells.size = 1 from ⟨_, (show ZeroT Tryd.prog 3 (.int .i64 0) by unfold ZeroT; kernel_rfl), rfl⟩) ⟨_, (show SlT Tryd.prog 22 3 1 8 from ⟨by kernel_rfl, by kernel_rfl⟩).und⟩ rfl rfl H (i := 3) rfl (H.rd (i := 7) rfl) (by first | exact bys_oneCell _ | (intro u hu; simp at hu; rcases hu with rfl | rfl | rfl | rfl <;> rfl) | (intro u hu; simp at hu; subst hu; rfl) | (intro u hu; obtain ⟨_, _, rfl⟩ := List.mem_map.1 hu; rfl)) (by omega) (by omega) ?_
            clear H; intro a30 c30 _ H
            simp only [List.set_cons_zero, List.set_cons_succ] at H
            refine s_end ?_
            refine ⟨⟨H.cellsAt (i := 6) rfl rfl, by rw [← hbn]; exact H.cellsAt (i := 6) rfl rfl⟩, ?_⟩
            refine r_one rfl ?_
            refine s_val rfl (x_load (by kernel_rfl) rfl (by first | exact hI.1 | exact hI.2 | exact hI.2.1 | exact hI.2.2 | exact hI.1.cell c0 | exact hI.1.cell c1 | exact H.cell (i := 1) rfl rfl | exact H.cell (i := 0) rfl rfl | exact H.ext.cell c3)) ?_
            refine s_end ?_
            refine ⟨⟨H.cellsAt (i := 6) rfl rfl, by rw [← hbn]; exact H.cellsAt (i := 6) rfl rfl⟩, ?_⟩
            refine r_val rfl rfl (fun w hI => x_field (off := 1) (by kernel_rfl) rfl) ?_
            refine r_one rfl ?_
            refine s_append rfl (show SlT Tryd.prog 44 5 1 1 from ⟨by kernel_rfl, by kernel_rfl⟩) (show ∃ z, ZeroT Tryd.prog 5 z ∧ z.cells.size = 1 from ⟨_, (show ZeroT Tryd.prog 5 (.int .u8 0) by unfold ZeroT; kernel_rfl), rfl⟩) ⟨_, (show SlT Tryd.prog 44 5 1 1 from ⟨by kernel_rfl, by kernel_rfl⟩).und⟩ rfl rfl H (i := 4) rfl ((by rw [← hbn]; exact (hB b hbm).ext H.ext)) (by first | exact bys_oneCell _ | (intro u hu; simp at hu; rcases hu with rfl | rfl | rfl | rfl <;> rfl) | (intro u hu; simp at hu; subst hu; rfl) | (intro u hu; obtain ⟨_, _, rfl⟩ := List.mem_map.1 hu; rfl)) (by omega) (by omega) ?_
            clear H; intro a35 c35 _ H
            simp only [List.set_cons_zero, List.set_cons_succ] at H
            refine s_end ?_
            refine ⟨⟨H.cellsAt (i := 6) rfl rfl, by rw [← hbn]; exact H.cellsAt (i := 6) rfl rfl⟩, ?_⟩
            refine r_one rfl ?_
            refine s_store rfl (by kernel_rfl) rfl (by conv => lhs; whnf) rfl H (i := 1) rfl rfl ?_
            clear H; intro _ H
            simp only [List.set_cons_zero, List.set_cons_succ, List.setIfInBounds_toArray] at H
            refine s_end ?_
            refine ⟨⟨H.cellsAt (i := 6) rfl rfl, by rw [← hbn]; exact H.cellsAt (i := 6) rfl rfl⟩, ?_⟩
            refine r_val rfl rfl (fun w hI => x_field (off := 2) (by kernel_rfl) rfl) ?_
            refine r_one rfl ?_
            refine s_store rfl (by kernel_rfl) rfl (by conv => lhs; whnf) rfl H (i := 1) rfl rfl ?_
            clear H; intro _ H
            simp only [List.set_cons_zero, List.set_cons_succ, List.setIfInBounds_toArray] at H
            refine s_end ?_
            refine ⟨⟨H.cellsAt (i := 6) rfl rfl, by rw [← hbn]; exact H.cellsAt (i := 6) rfl rfl⟩, ?_⟩
            refine r_done ?_
            exact thenQ_meet (a30, c30, a35, c35) ⟨rfl, rfl, rfl, rfl, rfl, rfl, rfl, rfl, rfl, trivial⟩ (H.re 0 7 [0, 1, 2, 3, 4, 5, 6, 7] (by kernel_rfl))
          · skip
            refine s_val rfl (x_load (by kernel_rfl) rfl (by first | exact hI.1 | exact hI.2 | exact hI.2.1 | exact hI.2.2 | exact hI.1.cell c0 | exact hI.1.cell c1 | exact H.cell (i := 1) rfl rfl | exact H.cell (i := 0) rfl rfl | exact H.ext.cell c3)) ?_
            refine s_end ?_
            refine ⟨⟨H.cellsAt (i := 6) rfl rfl, by rw [← hbn]; exact H.cellsAt (i := 6) rfl rfl⟩, ?_⟩
            refine r_one rfl ?_
            refine s_append rfl (show SlT Tryd.prog 22 3 1 8 from ⟨by kernel_rfl, by kernel_rfl⟩) (show ∃ z, ZeroT Tryd.prog 3 z ∧ z.cells.size = 1 from ⟨_, (show ZeroT Tryd.prog 3 (.int .i64 0) by unfold ZeroT; kernel_rfl), rfl⟩) ⟨_, (show SlT Tryd.prog 22 3 1 8 from ⟨by kernel_rfl, by kernel_rfl⟩).und⟩ rfl rfl H (i := 3) rfl (H.rd (i := 7) rfl) (by first | exact bys_oneCell _ | (intro u hu; simp at hu; rcases hu with rfl | rfl | rfl | rfl <;> rfl) | (intro u hu; simp at hu; subst hu; rfl) | (intro u hu; obtain ⟨_, _, rfl⟩ := List.mem_map.1 hu; rfl)) (by omega) (by omega) ?_
            clear H; intro a30 c30 _ H
            simp only [List.set_cons_zero, List.set_cons_succ] at H
            refine s_end ?_
            refine ⟨⟨H.cellsAt (i := 6) rfl rfl, by rw [← hbn]; exact H.cellsAt (i := 6) rfl rfl⟩, ?_⟩
            refine r_val rfl rfl (fun w hI => x_field (off := 1) (by kernel_rfl) rfl) ?_
            refine r_one rfl ?_
            refine s_append rfl (show SlT Tryd.prog 44 5 1 1 from ⟨by kernel_rfl, by kernel_rfl⟩) (show ∃ z, ZeroT Tryd.prog 5 z ∧ z.cells.size = 1 from ⟨_, (show ZeroT Tryd.prog 5 (.int .u8 0) by unfold ZeroT; kernel_rfl), rfl⟩) ⟨_, (show SlT Tryd.prog 44 5 1 1 from ⟨by kernel_rfl, by kernel_rfl⟩).und⟩ rfl rfl H (i := 4) rfl ((by rw [← hbn]; exact (hB b hbm).ext H.ext)) (by first | exact bys_oneCell _ | (intro u hu; simp at hu; rcases hu with rfl | rfl | rfl | rfl <;> rfl) | (intro u hu; simp at hu; subst hu; rfl) | (intro u hu; obtain ⟨_, _, rfl⟩ := List.mem_map.1 hu; rfl)) (by omega) (by omega) ?_
            clear H; intro a35 c35 _ H
            simp only [List.set_cons_zero, List.set_cons_succ] at H
            refine s_end ?_
            refine ⟨⟨H.cellsAt (i := 6) rfl rfl, by rw [← hbn]; exact H.cellsAt (i := 6) rfl rfl⟩, ?_⟩
            refine r_one rfl ?_
            refine s_store rfl (by kernel_rfl) rfl (by conv => lhs; whnf) rfl H (i := 1) rfl rfl ?_
            clear H; intro _ H
            simp only [List.set_cons_zero, List.set_cons_succ, List.setIfInBounds_toArray] at H
            refine s_end ?_
            refine ⟨⟨H.cellsAt (i := 6) rfl rfl, by rw [← hbn]; exact H.cellsAt (i := 6) rfl rfl⟩, ?_⟩
            refine r_val rfl rfl (fun w hI => x_field (off := 2) (by kernel_rfl) rfl) ?_
            refine r_one rfl ?_
            refine s_store rfl (by kernel_rfl) rfl (by conv => lhs; whnf) rfl H (i := 1) rfl rfl ?_
            clear H; intro _ H
            simp only [List.set_cons_zero, List.set_cons_succ, List.setIfInBounds_toArray] at H
            refine s_end ?_
            refine ⟨⟨H.cellsAt (i := 6) rfl rfl, by rw [← hbn]; exact H.cellsAt (i := 6) rfl rfl⟩, ?_⟩
            refine r_done ?_
            exact thenQ_meet (a30, c30, a35, c35) ⟨rfl, rfl, rfl, rfl, rfl, rfl, rfl, rfl, rfl, trivial⟩ (H.re 0 7 [0, 1, 2, 3, 4, 5, 6, 7] (by kernel_rfl))
        · skip
          refine s_val rfl (x_load (by kernel_rfl) rfl (by first | exact hI.1 | exact hI.2 | exact hI.2.1 | exact hI.2.2 | exact hI.1.cell c0 | exact hI.1.cell c1 | exact H.cell (i := 1) rfl rfl | exact H.cell (i := 0) rfl rfl | exact H.ext.cell c3)) ?_
          refine s_end ?_
          refine ⟨⟨H.cellsAt (i := 6) rfl rfl, by rw [← hbn]; exact H.cellsAt (i := 6) rfl rfl⟩, ?_⟩
          refine r_one rfl ?_
          refine s_buildSliceE (vs := [_]) rfl (show SlT Tryd.prog 22 3 1 8 from ⟨by kernel_rfl, by kernel_rfl⟩) (show ∃ z, ZeroT Tryd.prog 3 z ∧ z.cells.size = 1 from ⟨_, (show ZeroT Tryd.prog 3 (.int .i64 0) by unfold ZeroT; kernel_rfl), rfl⟩) rfl ⟨(by conv => lhs; whnf), trivial⟩ rfl (by simp [Value.cells]) (by decide) H ?_
          clear H; intro b29 _ H
          simp only [List.cons_append, List.nil_append, List.flatMap_cons, List.flatMap_nil, Value.cells, List.append_nil] at H
          refine s_end ?_
          refine ⟨⟨H.cellsAt (i := 6) rfl rfl, by rw [← hbn]; exact H.cellsAt (i := 6) rfl rfl⟩, ?_⟩
          refine r_one rfl ?_
          refine s_append rfl (show SlT Tryd.prog 22 3 1 8 from ⟨by kernel_rfl, by kernel_rfl⟩) (show ∃ z, ZeroT Tryd.prog 3 z ∧ z.cells.size = 1 from ⟨_, (show ZeroT Tryd.prog 3 (.int .i64 0) by unfold ZeroT; kernel_rfl), rfl⟩) ⟨_, (show SlT Tryd.prog 22 3 1 8 from ⟨by kernel_rfl, by kernel_rfl⟩).und⟩ rfl rfl H (i := 3) rfl (H.rd (i := 7) rfl) (by first | exact bys_oneCell _ | (intro u hu; simp at hu; rcases hu with rfl | rfl | rfl | rfl <;> rfl) | (intro u hu; simp at hu; subst hu; rfl) | (intro u hu; obtain ⟨_, _, rfl⟩ := List.mem_map.1 hu; rfl)) (by omega) (by omega) ?_
          clear H; intro a30 c30 _ H
          simp only [List.set_cons_zero, List.set_cons_succ] at H
          refine s_end ?_
          refine ⟨⟨H.cellsAt (i := 6) rfl rfl, by rw [← hbn]; exact H.cellsAt (i := 6) rfl rfl⟩, ?_⟩
          refine r_val rfl rfl (fun w hI => x_field (off := 1) (by kernel_rfl) rfl) ?_
          refine r_one rfl ?_
          refine s_append rfl (show SlT Tryd.prog 44 5 1 1 from ⟨by kernel_rfl, by kernel_rfl⟩) (show ∃ z, ZeroT Tryd.prog 5 z ∧ z.cells.size = 1 from ⟨_, (show ZeroT Tryd.prog 5 (.int .u8 0) by unfold ZeroT; kernel_rfl), rfl⟩) ⟨_, (show SlT Tryd.prog 44 5 1 1 from ⟨by kernel_rfl, by kernel_rfl⟩).und⟩ rfl rfl H (i := 4) rfl ((by rw [← hbn]; exact (hB b hbm).ext H.ext)) (by first | exact bys_oneCell _ | (intro u hu; simp at hu; rcases hu with rfl | rfl | rfl | rfl <;> rfl) | (intro u hu; simp at hu; subst hu; rfl) | (intro u hu; obtain ⟨_, _, rfl⟩ := List.mem_map.1 hu; rfl)) (by omega) (by omega) ?_
          clear H; intro a35 c35 _ H
          simp only [List.set_cons_zero, List.set_cons_succ] at H
          refine s_end ?_
          refine ⟨⟨H.cellsAt (i := 6) rfl rfl, by rw [← hbn]; exact H.cellsAt (i := 6) rfl rfl⟩, ?_⟩
          refine r_one rfl ?_
          refine s_store rfl (by kernel_rfl) rfl (by conv => lhs; whnf) rfl H (i := 1) rfl rfl ?_
          clear H; intro _ H
          simp only [List.set_cons_zero, List.set_cons_succ, List.setIfInBounds_toArray] at H
          refine s_end ?_
          refine ⟨⟨H.cellsAt (i := 6) rfl rfl, by rw [← hbn]; exact H.cellsAt (i := 6) rfl rfl⟩, ?_⟩
          refine r_val rfl rfl (fun w hI => x_field (off := 2) (by kernel_rfl) rfl) ?_
          refine r_one rfl ?_
          refine s_store rfl (by kernel_rfl) rfl (by conv => lhs; whnf) rfl H (i := 1) rfl rfl ?_
          clear H; intro _ H
          simp only [List.set_cons_zero, List.set_cons_succ, List.setIfInBounds_toArray] at H
          refine s_end ?_
          refine ⟨⟨H.cellsAt (i := 6) rfl rfl, by rw [← hbn]; exact H.cellsAt (i := 6) rfl rfl⟩, ?_⟩
          refine r_done ?_
          exact thenQ_meet (a30, c30, a35, c35) ⟨rfl, rfl, rfl, rfl, rfl, rfl, rfl, rfl, rfl, trivial⟩ (H.re 0 7 [0, 1, 2, 3, 4, 5, 6, 7] (by kernel_rfl))
      · skip
        refine s_buildSliceE (vs := [_]) rfl (show SlT Tryd.prog 22 3 1 8 from ⟨by kernel_rfl, by kernel_rfl⟩) (show ∃ z, ZeroT Tryd.prog 3 z ∧ z.cells.size = 1 from ⟨_, (show ZeroT Tryd.prog 3 (.int .i64 0) by unfold ZeroT; kernel_rfl), rfl⟩) rfl ⟨(by conv => lhs; whnf), trivial⟩ rfl (by simp [Value.cells]) (by decide) H ?_
        clear H; intro b29 _ H
        simp only [List.cons_append, List.nil_append, List.flatMap_cons, List.flatMap_nil, Value.cells, List.append_nil] at H
        refine s_end ?_
        refine ⟨⟨H.cellsAt (i := 6) rfl rfl, by rw [← hbn]; exact H.cellsAt (i := 6) rfl rfl⟩, ?_⟩
        refine r_two rfl rfl ?_ ?_
        · skip
          refine s_val rfl (x_load (by kernel_rfl) rfl (by first | exact hI.1 | exact hI.2 | exact hI.2.1 | exact hI.2.2 | exact hI.1.cell c0 | exact hI.1.cell c1 | exact H.cell (i := 1) rfl rfl | exact H.cell (i := 0) rfl rfl | exact H.ext.cell c3)) ?_
          refine s_end ?_
          refine ⟨⟨H.cellsAt (i := 6) rfl rfl, by rw [← hbn]; exact H.cellsAt (i := 6) rfl rfl⟩, ?_⟩
          refine r_two rfl rfl ?_ ?_
          · skip
            refine s_append rfl (show SlT Tryd.prog 22 3 1 8 from ⟨by kernel_rfl, by kernel_rfl⟩) (show ∃ z, ZeroT Tryd.prog 3 z ∧ z.cells.size = 1 from ⟨_, (show ZeroT Tryd.prog 3 (.int .i64 0) by unfold ZeroT; kernel_rfl), rfl⟩) ⟨_, (show SlT Tryd.prog 22 3 1 8 from ⟨by kernel_rfl, by kernel_rfl⟩).und⟩ rfl rfl H (i := 3) rfl (H.rd (i := 7) rfl) (by first | exact bys_oneCell _ | (intro u hu; simp at hu; rcases hu with rfl | rfl | rfl | rfl <;> rfl) | (intro u hu; simp at hu; subst hu; rfl) | (intro u hu; obtain ⟨_, _, rfl⟩ := List.mem_map.1 hu; rfl)) (by omega) (by omega) ?_
            clear H; intro a30 c30 _ H
            simp only [List.set_cons_zero, List.set_cons_succ] at H
            refine s_end ?_
            refine ⟨⟨H.cellsAt (i := 6) rfl rfl, by rw [← hbn]; exact H.cellsAt (i := 6) rfl rfl⟩, ?_⟩
            refine r_one rfl ?_
            refine s_val rfl (x_load (by kernel_rfl) rfl (by first | exact hI.1 | exact hI.2 | exact hI.2.1 | exact hI.2.2 | exact hI.1.cell c0 | exact hI.1.cell c1 | exact H.cell (i := 1) rfl rfl | exact H.cell (i := 0) rfl rfl | exact H.ext.cell c3)) ?_
            refine s_end ?_
            refine ⟨⟨H.cellsAt (i := 6) rfl rfl, by rw [← hbn]; exact H.cellsAt (i := 6) rfl rfl⟩, ?_⟩
            refine r_val rfl rfl (fun w hI => x_field (off := 1) (by kernel_rfl) rfl) ?_
            refine r_one rfl ?_
            refine s_append rfl (show SlT Tryd.prog 44 5 1 1 from ⟨by kernel_rfl, by kernel_rfl⟩) (show ∃ z, ZeroT Tryd.prog 5 z ∧ z.cells.size = 1 from ⟨_, (show ZeroT Tryd.prog 5 (.int .u8 0) by unfold ZeroT; kernel_rfl), rfl⟩) ⟨_, (show SlT Tryd.prog 44 5 1 1 from ⟨by kernel_rfl, by kernel_rfl⟩).und⟩ rfl rfl H (i := 4) rfl ((by rw [← hbn]; exact (hB b hbm).ext H.ext)) (by first | exact bys_oneCell _ | (intro u hu; simp at hu; rcases hu with rfl | rfl | rfl | rfl <;> rfl) | (intro u hu; simp at hu; subst hu; rfl) | (intro u hu; obtain ⟨_, _, rfl⟩ := List.mem_map.1 hu; rfl)) (by omega) (by omega) ?_
            clear H; intro a35 c35 _ H
            simp only [List.set_cons_zero, List.set_cons_succ] at H
            refine s_end ?_
            refine ⟨⟨H.cellsAt (i := 6) rfl rfl, by rw [← hbn]; exact H.cellsAt (i := 6) rfl rfl⟩, ?_⟩
            refine r_one rfl ?_
            refine s_store rfl (by kernel_rfl) rfl (by conv => lhs; whnf) rfl H (i := 1) rfl rfl ?_
            clear H; intro _ H
            simp only [List.set_cons_zero, List.set_cons_succ, List.setIfInBounds_toArray] at H
            refine s_end ?_
            refine ⟨⟨H.cellsAt (i := 6) rfl rfl, by rw [← hbn]; exact H.cellsAt (i := 6) rfl rfl⟩, ?_⟩
            refine r_val rfl rfl (fun w hI => x_field (off := 2) (by kernel_rfl) rfl) ?_
            refine r_one rfl ?_
            refine s_store rfl (by kernel_rfl) rfl (by conv => lhs; whnf) rfl H (i := 1) rfl rfl ?_
            clear H; intro _ H
            simp only [List.set_cons_zero, List.set_cons_succ, List.setIfInBounds_toArray] at H
            refine s_end ?_
            refine ⟨⟨H.cellsAt (i := 6) rfl rfl, by rw [← hbn]; exact H.cellsAt (i := 6) rfl rfl⟩, ?_⟩
            refine r_done ?_
            exact thenQ_meet (a30, c30, a35, c35) ⟨rfl, rfl, rfl, rfl, rfl, rfl, rfl, rfl, rfl, trivial⟩ (H.re 0 7 [0, 1, 2, 3, 4, 5, 6, 7] (by kernel_rfl))
          · skip
            refine s_val rfl (x_load (by kernel_rfl) rfl (by first | exact hI.1 | exact hI.2 | exact hI.2.1 | exact hI.2.2 | exact hI.1.cell c0 | exact hI.1.cell c1 | exact H.cell (i := 1) rfl rfl | exact H.cell (i := 0) rfl rfl | exact H.ext.cell c3)) ?_
            refine s_end ?_
            refine ⟨⟨H.cellsAt (i := 6) rfl rfl, by rw [← hbn]; exact H.cellsAt (i := 6) rfl rfl⟩, ?_⟩
            refine r_one rfl ?_
            refine s_append rfl (show SlT Tryd.prog 22 3 1 8 from ⟨by kernel_rfl, by kernel_rfl⟩) (show ∃ z, ZeroT Tryd.prog 3 z ∧ z.cells.size = 1 from ⟨_, (show ZeroT Tryd.prog 3 (.int .i64 0) by unfold ZeroT; kernel_rfl), rfl⟩) ⟨_, (show SlT Tryd.prog 22 3 1 8 from ⟨by kernel_rfl, by kernel_rfl⟩).und⟩ rfl rfl H (i := 3) rfl (H.rd (i := 7) rfl) (by first | exact bys_oneCell _ | (intro u hu; simp at hu; rcases hu with rfl | rfl | rfl | rfl <;> rfl) | (intro u hu; simp at hu; subst hu; rfl) | (intro u hu; obtain ⟨_, _, rfl⟩ := List.mem_map.1 hu; rfl)) (by omega) (by omega) ?_
            clear H; intro a30 c30 _ H
            simp only [List.set_cons_zero, List.set_cons_succ] at H
            refine s_end ?_
            refine ⟨⟨H.cellsAt (i := 6) rfl rfl, by rw [← hbn]; exact H.cellsAt (i := 6) rfl rfl⟩, ?_⟩
            refine r_val rfl rfl (fun w hI => x_field (off := 1) (by kernel_rfl) rfl) ?_
            refine r_one rfl ?_
            refine s_append rfl (show SlT Tryd.prog 44 5 1 1 from ⟨by kernel_rfl, by kernel_rfl⟩) (show ∃ z, ZeroT Tryd.prog 5 z ∧ z.cells.size = 1 from ⟨_, (show ZeroT Tryd.prog 5 (.int .u8 0) by unfold ZeroT; kernel_rfl), rfl⟩) ⟨_, (show SlT Tryd.prog 44 5 1 1 from ⟨by kernel_rfl, by kernel_rfl⟩).und⟩ rfl rfl H (i := 4) rfl ((by rw [← hbn]; exact (hB b hbm).ext H.ext)) (by first | exact bys_oneCell _ | (intro u hu; simp at hu; rcases hu with rfl | rfl | rfl | rfl <;> rfl) | (intro u hu; simp at hu; subst hu; rfl) | (intro u hu; obtain ⟨_, _, rfl⟩ := List.mem_map.1 hu; rfl)) (by omega) (by omega) ?_
            clear H; intro a35 c35 _ H
            simp only [List.set_cons_zero, List.set_cons_succ] at H
            refine s_end ?_
            refine ⟨⟨H.cellsAt (i := 6) rfl rfl, by rw [← hbn]; exact H.cellsAt (i := 6) rfl rfl⟩, ?_⟩
            refine r_one rfl ?_
            refine s_store rfl (by kernel_rfl) rfl (by conv => lhs; whnf) rfl H (i := 1) rfl rfl ?_
            clear H; intro _ H
            simp only [List.set_cons_zero, List.set_cons_succ, List.setIfInBounds_toArray] at H
            refine s_end ?_
            refine ⟨⟨H.cellsAt (i := 6) rfl rfl, by rw [← hbn]; exact H.cellsAt (i := 6) rfl rfl⟩, ?_⟩
            refine r_val rfl rfl (fun w hI => x_field (off := 2) (by kernel_rfl) rfl) ?_
            refine r_one rfl ?_
            refine s_store rfl (by kernel_rfl) rfl (by conv => lhs; whnf) rfl H (i := 1) rfl rfl ?_
            clear H; intro _ H
            simp only [List.set_cons_zero, List.set_cons_succ, List.setIfInBounds_toArray] at H
            refine s_end ?_
            refine ⟨⟨H.cellsAt (i := 6) rfl rfl, by rw [← hbn]; exact H.cellsAt (i := 6) rfl rfl⟩, ?_⟩
            refine r_done ?_
            exact thenQ_meet (a30, c30, a35, c35) ⟨rfl, rfl, rfl, rfl, rfl, rfl, rfl, rfl, rfl, trivial⟩ (H.re 0 7 [0, 1, 2, 3, 4, 5, 6, 7] (by kernel_rfl))
        · skip
          refine s_val rfl (x_load (by kernel_rfl) rfl (by first | exact hI.1 | exact hI.2 | exact hI.2.1 | exact hI.2.2 | exact hI.1.cell c0 | exact hI.1.cell c1 | exact H.cell (i := 1) rfl rfl | exact H.cell (i := 0) rfl rfl | exact H.ext.cell c3)) ?_
          refine s_end ?_
          refine ⟨⟨H.cellsAt (i := 6) rfl rfl, by rw [← hbn]; exact H.cellsAt (i := 6) rfl rfl⟩, ?_⟩
          refine r_one rfl ?_
          refine s_val rfl (x_load (by kernel_rfl) rfl (by first | exact hI.1 | exact hI.2 | exact hI.2.1 | exact hI.2.2 | exact hI.1.cell c0 | exact hI.1.cell c1 | exact H.cell (i := 1) rfl rfl | exact H.cell (i := 0) rfl rfl | exact H.ext.cell c3)) ?_
          refine s_end ?_
          refine ⟨⟨H.cellsAt (i := 6) rfl rfl, by rw [← hbn]; exact H.cellsAt (i := 6) rfl rfl⟩, ?_⟩
          refine r_one rfl ?_
          refine s_append rfl (show SlT Tryd.prog 22 3 1 8 from ⟨by kernel_rfl, by kernel_rfl⟩) (show ∃ z, ZeroT Tryd.prog 3 z ∧ z.cells.size = 1 from ⟨_, (show ZeroT Tryd.prog 3 (.int .i64 0) by unfold ZeroT; kernel_rfl), rfl⟩) ⟨_, (show SlT Tryd.prog 22 3 1 8 from ⟨by kernel_rfl, by kernel_rfl⟩).und⟩ rfl rfl H (i := 3) rfl (H.rd (i := 7) rfl) (by first | exact bys_oneCell _ | (intro u hu; simp at hu; rcases hu with rfl | rfl | rfl | rfl <;> rfl) | (intro u hu; simp at hu; subst hu; rfl) | (intro u hu; obtain ⟨_, _, rfl⟩ := List.mem_map.1 hu; rfl)) (by omega) (by omega) ?_
          clear H; intro a30 c30 _ H
          simp only [List.set_cons_zero, List.set_cons_succ] at H
          refine s_end ?_
          refine ⟨⟨H.cellsAt (i := 6) rfl rfl, by rw [← hbn]; exact H.cellsAt (i := 6) rfl rfl⟩, ?_⟩
          refine r_val rfl rfl (fun w hI => x_field (off := 1) (by kernel_rfl) rfl) ?_
          refine r_one rfl ?_
          refine s_append rfl (show SlT Tryd.prog 44 5 1 1 from ⟨by kernel_rfl, by kernel_rfl⟩) (show ∃ z, ZeroT Tryd.prog 5 z ∧ z.cells.size = 1 from ⟨_, (show ZeroT Tryd.prog 5 (.int .u8 0) by unfold ZeroT; kernel_rfl), rfl⟩) ⟨_, (show SlT Tryd.prog 44 5 1 1 from ⟨by kernel_rfl, by kernel_rfl⟩).und⟩ rfl rfl H (i := 4) rfl ((by rw [← hbn]; exact (hB b hbm).ext H.ext)) (by first | exact bys_oneCell _ | (intro u hu; simp at hu; rcases hu with rfl | rfl | rfl | rfl <;> rfl) | (intro u hu; simp at hu; subst hu; rfl) | (intro u hu; obtain ⟨_, _, rfl⟩ := List.mem_map.1 hu; rfl)) (by omega) (by omega) ?_
          clear H; intro a35 c35 _ H
          simp only [List.set_cons_zero, List.set_cons_succ] at H
          refine s_end ?_
          refine ⟨⟨H.cellsAt (i := 6) rfl rfl, by rw [← hbn]; exact H.cellsAt (i := 6) rfl rfl⟩, ?_⟩
          refine r_one rfl ?_
          refine s_store rfl (by kernel_rfl) rfl (by conv => lhs; whnf) rfl H (i := 1) rfl rfl ?_
          clear H; intro _ H
          simp only [List.set_cons_zero, List.set_cons_succ, List.setIfInBounds_toArray] at H
          refine s_end ?_
          refine ⟨⟨H.cellsAt (i := 6) rfl rfl, by rw [← hbn]; exact H.cellsAt (i := 6) rfl rfl⟩, ?_⟩
          refine r_val rfl rfl (fun w hI => x_field (off := 2) (by kernel_rfl) rfl) ?_
          refine r_one rfl ?_
          refine s_store rfl (by kernel_rfl) rfl (by conv => lhs; whnf) rfl H (i := 1) rfl rfl ?_
          clear H; intro _ H
          simp only [List.set_cons_zero, List.set_cons_succ, List.setIfInBounds_toArray] at H
          refine s_end ?_
          refine ⟨⟨H.cellsAt (i := 6) rfl rfl, by rw [← hbn]; exact H.cellsAt (i := 6) rfl rfl⟩, ?_⟩
          refine r_done ?_
          exact thenQ_meet (a30, c30, a35, c35) ⟨rfl, rfl, rfl, rfl, rfl, rfl, rfl, rfl, rfl, trivial⟩ (H.re 0 7 [0, 1, 2, 3, 4, 5, 6, 7] (by kernel_rfl))
      · skip
        refine s_val rfl (x_load (by kernel_rfl) rfl (by first | exact hI.1 | exact hI.2 | exact hI.2.1 | exact hI.2.2 | exact hI.1.cell c0 | exact hI.1.cell c1 | exact H.cell (i := 1) rfl rfl | exact H.cell (i := 0) rfl rfl | exact H.ext.cell c3)) ?_
        refine s_end ?_
        refine ⟨⟨H.cellsAt (i := 6) rfl rfl, by rw [← hbn]; exact H.cellsAt (i := 6) rfl rfl⟩, ?_⟩
        refine r_two rfl rfl ?_ ?_
        · skip
          refine s_val rfl (x_load (by kernel_rfl) rfl (by first | exact hI.1 | exact hI.2 | exact hI.2.1 | exact hI.2.2 | exact hI.1.cell c0 | exact hI.1.cell c1 | exact H.cell (i := 1) rfl rfl | exact H.cell (i := 0) rfl rfl | exact H.ext.cell c3)) ?_
          refine s_end ?_
          refine ⟨⟨H.cellsAt (i := 6) rfl rfl, by rw [← hbn]; exact H.cellsAt (i := 6) rfl rfl⟩, ?_⟩
          refine r_one rfl ?_
          refine s_buildSliceE (vs := [_]) rfl (show SlT Tryd.prog 22 3 1 8 from ⟨by kernel_rfl, by kernel_rfl⟩) (show ∃ z, ZeroT Tryd.prog 3 z ∧ z.cells.size = 1 from ⟨_, (show ZeroT Tryd.prog 3 (.int .i64 0) by unfold ZeroT; kernel_rfl), rfl⟩) rfl ⟨(by conv => lhs; whnf), trivial⟩ rfl (by simp [Value.cells]) (by decide) H ?_
          clear H; intro b29 _ H
          simp only [List.cons_append, List.nil_append, List.flatMap_cons, List.flatMap_nil, Value.cells, List.append_nil] at H
          refine s_end ?_
          refine ⟨⟨H.cellsAt (i := 6) rfl rfl, by rw [← hbn]; exact H.cellsAt (i := 6) rfl rfl⟩, ?_⟩
          refine r_one rfl ?_
          refine s_append rfl (show SlT Tryd.prog 22 3 1 8 from ⟨by kernel_rfl, by kernel_rfl⟩) (show ∃ z, ZeroT Tryd.prog 3 z ∧ z.cells.size = 1 from ⟨_, (show ZeroT Tryd.prog 3 (.int .i64 0) by unfold ZeroT; kernel_rfl), rfl⟩) ⟨_, (show SlT Tryd.prog 22 3 1 8 from ⟨by kernel_rfl, by kernel_rfl⟩).und⟩ rfl rfl H (i := 3) rfl (H.rd (i := 7) rfl) (by first | exact bys_oneCell _ | (intro u hu; simp at hu; rcases hu with rfl | rfl | rfl | rfl <;> rfl) | (intro u hu; simp at hu; subst hu; rfl) | (intro u hu; obtain ⟨_, _, rfl⟩ := List.mem_map.1 hu; rfl)) (by omega) (by omega) ?_
          clear H; intro a30 c30 _ H
          simp only [List.set_cons_zero, List.set_cons_succ] at H
          refine s_end ?_
          refine ⟨⟨H.cellsAt (i := 6) rfl rfl, by rw [← hbn]; exact H.cellsAt (i := 6) rfl rfl⟩, ?_⟩
          refine r_val rfl rfl (fun w hI => x_field (off := 1) (by kernel_rfl) rfl) ?_
          refine r_one rfl ?_
          refine s_append rfl (show SlT Tryd.prog 44 5 1 1 from ⟨by kernel_rfl, by kernel_rfl⟩) (show ∃ z, ZeroT Tryd.prog 5 z ∧ z.cells.size = 1 from ⟨_, (show ZeroT Tryd.prog 5 (.int .u8 0) by unfold ZeroT; kernel_rfl), rfl⟩) ⟨_, (show SlT Tryd.prog 44 5 1 1 from ⟨by kernel_rfl, by kernel_rfl⟩).und⟩ rfl rfl H (i := 4) rfl ((by rw [← hbn]; exact (hB b hbm).ext H.ext)) (by first | exact bys_oneCell _ | (intro u hu; simp at hu; rcases hu with rfl | rfl | rfl | rfl <;> rfl) | (intro u hu; simp at hu; subst hu; rfl) | (intro u hu; obtain ⟨_, _, rfl⟩ := List.mem_map.1 hu; rfl)) (by omega) (by omega) ?_
          clear H; intro a35 c35 _ H
          simp only [List.set_cons_zero, List.set_cons_succ] at H
          refine s_end ?_
          refine ⟨⟨H.cellsAt (i := 6) rfl rfl, by rw [← hbn]; exact H.cellsAt (i := 6) rfl rfl⟩, ?_⟩
          refine r_one rfl ?_
          refine s_store rfl (by kernel_rfl) rfl (by conv => lhs; whnf) rfl H (i := 1) rfl rfl ?_
          clear H; intro _ H
          simp only [List.set_cons_zero, List.set_cons_succ, List.setIfInBounds_toArray] at H
          refine s_end ?_
          refine ⟨⟨H.cellsAt (i := 6) rfl rfl, by rw [← hbn]; exact H.cellsAt (i := 6) rfl rfl⟩, ?_⟩
          refine r_val rfl rfl (fun w hI => x_field (off := 2) (by kernel_rfl) rfl) ?_
          refine r_one rfl ?_
          refine s_store rfl (by kernel_rfl) rfl (by conv => lhs; whnf) rfl H (i := 1) rfl rfl ?_
          clear H; intro _ H
          simp only [List.set_cons_zero, List.set_cons_succ, List.setIfInBounds_toArray] at H
          refine s_end ?_
          refine ⟨⟨H.cellsAt (i := 6) rfl rfl, by rw [← hbn]; exact H.cellsAt (i := 6) rfl rfl⟩, ?_⟩
          refine r_done ?_
          exact thenQ_meet (a30, c30, a35, c35) ⟨rfl, rfl, rfl, rfl, rfl, rfl, rfl, rfl, rfl, trivial⟩ (H.re 0 7 [0, 1, 2, 3, 4, 5, 6, 7] (by kernel_rfl))
        · skip
          refine s_buildSliceE (vs := [_]) rfl (show SlT Tryd.prog 22 3 1 8 from ⟨by kernel_rfl, by kernel_rfl⟩) (show ∃ z, ZeroT Tryd.prog 3 z ∧ z.cells.size = 1 from ⟨_, (show ZeroT Tryd.prog 3 (.int .i64 0) by unfold ZeroT; kernel_rfl), rfl⟩) rfl ⟨(by conv => lhs; whnf), trivial⟩ rfl (by simp [Value.cells]) (by decide) H ?_
          clear H; intro b29 _ H
          simp only [List.cons_append, List.nil_append, List.flatMap_cons, List.flatMap_nil, Value.cells, List.append_nil] at H
          refine s_end ?_
          refine ⟨⟨H.cellsAt (i := 6) rfl rfl, by rw [← hbn]; exact H.cellsAt (i := 6) rfl rfl⟩, ?_⟩
          refine r_one rfl ?_
          refine s_val rfl (x_load (by kernel_rfl) rfl (by first | exact hI.1 | exact hI.2 | exact hI.2.1 | exact hI.2.2 | exact hI.1.cell c0 | exact hI.1.cell c1 | exact H.cell (i := 1) rfl rfl | exact H.cell (i := 0) rfl rfl | exact H.ext.cell c3)) ?_
          refine s_end ?_
          refine ⟨⟨H.cellsAt (i := 6) rfl rfl, by rw [← hbn]; exact H.cellsAt (i := 6) rfl rfl⟩, ?_⟩
          refine r_one rfl ?_
          refine s_append rfl (show SlT Tryd.prog 22 3 1 8 from ⟨by kernel_rfl, by kernel_rfl⟩) (show ∃ z, ZeroT Tryd.prog 3 z ∧ z.cells.size = 1 from ⟨_, (show ZeroT Tryd.prog 3 (.int .i64 0) by unfold ZeroT; kernel_rfl), rfl⟩) ⟨_, (show SlT Tryd.prog 22 3 1 8 from ⟨by kernel_rfl, by kernel_rfl⟩).und⟩ rfl rfl H (i := 3) rfl (H.rd (i := 7) rfl) (by first | exact bys_oneCell _ | (intro u hu; simp at hu; rcases hu with rfl | rfl | rfl | rfl <;> rfl) | (intro u hu; simp at hu; subst hu; rfl) | (intro u hu; obtain ⟨_, _, rfl⟩ := List.mem_map.1 hu; rfl)) (by omega) (by omega) ?_
          clear H; intro a30 c30 _ H
          simp only [List.set_cons_zero, List.set_cons_succ] at H
          refine s_end ?_
          refine ⟨⟨H.cellsAt (i := 6) rfl rfl, by rw [← hbn]; exact H.cellsAt (i := 6) rfl rfl⟩, ?_⟩
          refine r_val rfl rfl (fun w hI => x_field (off := 1) (by kernel_rfl) rfl) ?_
          refine r_one rfl ?_
          refine s_append rfl (show SlT Tryd.prog 44 5 1 1 from ⟨by kernel_rfl, by kernel_rfl⟩) (show ∃ z, ZeroT Tryd.prog 5 z ∧ z.cells.size = 1 from ⟨_, (show ZeroT Tryd.prog 5 (.int .u8 0) by unfold ZeroT; kernel_rfl), rfl⟩) ⟨_, (show SlT Tryd.prog 44 5 1 1 from ⟨by kernel_rfl, by kernel_rfl⟩).und⟩ rfl rfl H (i := 4) rfl ((by rw [← hbn]; exact (hB b hbm).ext H.ext)) (by first | exact bys_oneCell _ | (intro u hu; simp at hu; rcases hu with rfl | rfl | rfl | rfl <;> rfl) | (intro u hu; simp at hu; subst hu; rfl) | (intro u hu; obtain ⟨_, _, rfl⟩ := List.mem_map.1 hu; rfl)) (by omega) (by omega) ?_
          clear H; intro a35 c35 _ H
          simp only [List.set_cons_zero, List.set_cons_succ] at H
          refine s_end ?_
          refine ⟨⟨H.cellsAt (i := 6) rfl rfl, by rw [← hbn]; exact H.cellsAt (i := 6) rfl rfl⟩, ?_⟩
          refine r_one rfl ?_
          refine s_store rfl (by kernel_rfl) rfl (by conv => lhs; whnf) rfl H (i := 1) rfl rfl ?_
          clear H; intro _ H
          simp only [List.set_cons_zero, List.set_cons_succ, List.setIfInBounds_toArray] at H
          refine s_end ?_
          refine ⟨⟨H.cellsAt (i := 6) rfl rfl, by rw [← hbn]; exact H.cellsAt (i := 6) rfl rfl⟩, ?_⟩
          refine r_val rfl rfl (fun w hI => x_field (off := 2) (by kernel_rfl) rfl) ?_
          refine r_one rfl ?_
          refine s_store rfl (by kernel_rfl) rfl (by conv => lhs; whnf) rfl H (i := 1) rfl rfl ?_
          clear H; intro _ H
          simp only [List.set_cons_zero, List.set_cons_succ, List.setIfInBounds_toArray] at H
          refine s_end ?_
          refine ⟨⟨H.cellsAt (i := 6) rfl rfl, by rw [← hbn]; exact H.cellsAt (i := 6) rfl rfl⟩, ?_⟩
          refine r_done ?_
          exact thenQ_meet (a30, c30, a35, c35) ⟨rfl, rfl, rfl, rfl, rfl, rfl, rfl, rfl, rfl, trivial⟩ (H.re 0 7 [0, 1, 2, 3, 4, 5, 6, 7] (by kernel_rfl))
    · skip
      clear H
      rintro ⟨ia2, hc2, da2, dc2⟩ ρ w9 H
      dsimp only at H ⊢
      refine WP_draw (fun w_ => Ext w w_ ∧ w_.cell? ⟨b2, 0, none⟩ = some (pp v) ∧ w_.cell? ⟨b8, 1, none⟩ = some (.slice b.a 256 b.cap)) (.float 0 (.float 1 (.float 2 (.float 3 (.float 4 (.float 5 (.float 6 (.float 7 (.float 8 (.float 9 (.float 10 (.float 11 (.float 12 (.float 13 (.fork [(14, .fork [(15, .fork [(16, .float 17 .done)])])]))))))))))))))) (by kernel_rfl) (by kernel_rfl) ⟨H.ext, H.cell (i := 0) rfl rfl, by rw [← hbn]; exact H.cellsAt (i := 6) rfl rfl⟩ ?_
      replace H := H.drew
      refine r_val rfl rfl (fun w hI => x_move (by conv => lhs; whnf)) ?_
      refine r_val rfl rfl (fun w hI => x_load (by kernel_rfl) rfl (by first | exact hI.1 | exact hI.2 | exact hI.2.1 | exact hI.2.2 | exact hI.1.cell c0 | exact hI.1.cell c1 | exact H.cell (i := 1) rfl rfl | exact H.cell (i := 0) rfl rfl | exact H.ext.cell c3)) ?_
      refine r_val rfl rfl (fun w hI => x_nilCheck rfl) ?_
      refine r_val rfl rfl (fun w hI => x_field (off := 0) (by kernel_rfl) rfl) ?_
      refine r_val rfl rfl (fun w hI => x_load (by kernel_rfl) rfl (by first | exact hI.1 | exact hI.2 | exact hI.2.1 | exact hI.2.2 | exact hI.1.cell c0 | exact hI.1.cell c1 | exact H.cell (i := 1) rfl rfl | exact H.cell (i := 0) rfl rfl | exact H.ext.cell c3)) ?_
      refine r_val rfl rfl (fun w hI => x_load (by kernel_rfl) rfl (by first | exact hI.1 | exact hI.2 | exact hI.2.1 | exact hI.2.2 | exact hI.1.cell c0 | exact hI.1.cell c1 | exact H.cell (i := 1) rfl rfl | exact H.cell (i := 0) rfl rfl | exact H.ext.cell c3)) ?_
      refine r_val rfl rfl (fun w hI => x_nilCheck rfl) ?_
      refine r_val rfl rfl (fun w hI => x_field (off := 1) (by kernel_rfl) rfl) ?_
      refine r_val rfl rfl (fun w hI => x_load (by kernel_rfl) rfl (by first | exact hI.1 | exact hI.2 | exact hI.2.1 | exact hI.2.2 | exact hI.1.cell c0 | exact hI.1.cell c1 | exact H.cell (i := 1) rfl rfl | exact H.cell (i := 0) rfl rfl | exact H.ext.cell c3)) ?_
      refine r_val rfl rfl (fun w hI => x_addi rfl rfl (by omega)) ?_
      refine r_val rfl rfl (fun w hI => x_move (by conv => lhs; whnf)) ?_
      refine r_val rfl rfl (fun w hI => x_addi rfl rfl (by omega)) ?_
      refine r_val rfl rfl (fun w hI => x_field (off := 1) (by kernel_rfl) rfl) ?_
      refine r_val rfl rfl (fun w hI => x_load (by kernel_rfl) rfl (by first | exact hI.1 | exact hI.2 | exact hI.2.1 | exact hI.2.2 | exact hI.1.cell c0 | exact hI.1.cell c1 | exact H.cell (i := 1) rfl rfl | exact H.cell (i := 0) rfl rfl | exact H.ext.cell c3)) ?_
      refine r_one rfl ?_
      refine s_call rfl (by kernel_rfl) (write_calls d (at_ + 1 + (sts.length : Int)) b.a 256 b.cap) rfl rfl ?_
      rintro _ w10 ⟨p, q, r, rfl, H4⟩
      replace H := H.more H4
      clear H4
      simp only [List.cons_append, List.nil_append, wrO] at H
      refine s_end ?_
      refine ⟨⟨H.ext, H.cell (i := 0) rfl rfl, by rw [← hbn]; exact H.cellsAt (i := 6) rfl rfl⟩, ?_⟩
      refine r_one rfl ?_
      refine s_buildSliceE (vs := [_]) rfl (show SlT Tryd.prog 66 95 1 8 from ⟨by kernel_rfl, by kernel_rfl⟩) (show ∃ z, ZeroT Tryd.prog 95 z ∧ z.cells.size = 1 from ⟨_, (show ZeroT Tryd.prog 95 (.nilFunc) by unfold ZeroT; kernel_rfl), rfl⟩) rfl ⟨(by conv => lhs; whnf), trivial⟩ rfl (by simp [Value.cells]) (by decide) H ?_
      clear H; intro b53 _ H
      simp only [List.cons_append, List.nil_append, List.flatMap_cons, List.flatMap_nil, Value.cells, List.append_nil] at H
      refine s_end ?_
      refine ⟨⟨H.ext, H.cell (i := 0) rfl rfl, by rw [← hbn]; exact H.cellsAt (i := 6) rfl rfl⟩, ?_⟩
      refine r_one rfl ?_
      refine s_append rfl (show SlT Tryd.prog 66 95 1 8 from ⟨by kernel_rfl, by kernel_rfl⟩) (show ∃ z, ZeroT Tryd.prog 95 z ∧ z.cells.size = 1 from ⟨_, (show ZeroT Tryd.prog 95 (.nilFunc) by unfold ZeroT; kernel_rfl), rfl⟩) ⟨_, (show SlT Tryd.prog 66 95 1 8 from ⟨by kernel_rfl, by kernel_rfl⟩).und⟩ rfl rfl H (i := 5) rfl (H.rd (i := 10) rfl) (by first | exact bys_oneCell _ | (intro u hu; simp at hu; rcases hu with rfl | rfl | rfl | rfl <;> rfl) | (intro u hu; simp at hu; subst hu; rfl) | (intro u hu; obtain ⟨_, _, rfl⟩ := List.mem_map.1 hu; rfl)) (by omega) (by omega) ?_
      clear H; intro a54 c54 _ H
      simp only [List.set_cons_zero, List.set_cons_succ] at H
      refine s_end ?_
      refine ⟨⟨H.ext, H.cell (i := 0) rfl rfl, by rw [← hbn]; exact H.cellsAt (i := 6) rfl rfl⟩, ?_⟩
      refine r_val rfl rfl (fun w hI => x_assign (by conv => lhs; whnf)) ?_
      refine r_done ?_
      refine blockQ_n ?_
      refine thenQ_n ?_
      refine WP_region rfl ?_
      refine s_val rfl (x_addi rfl rfl (by omega)) ?_
      refine s_val rfl (x_move (by conv => lhs; whnf)) ?_
      refine s_end ?_
      have H2 : Sat w _ ([blk b2 (.cells #[pp v] 24 (0, 0)), blk b5 (.cells (lcells tu ia2 (sts.length + 1) hc2 da2 (256 * sts.length + 256) dc2).toArray 62 (0, 0)), stars (sts.map St.own),
            slo 3 1 ia2 (sts.length + 1) hc2 ((bkHomes (l.take sts.length)).map natV ++ [.int .i64 b.at_]), slo 5 1 da2 (256 * sts.length + 256) dc2 (bys (bkData (l.take sts.length)) ++ bys b.bs), slo 95 1 a54 (sts.length + 1) c54 (sts.map St.f ++ [wrV p q r]), emp] ++ wrO d (at_ + 1 + (sts.length : Int)) b.a 256 b.cap p q r) := H.re 1 10 [0, 1, 2, 3, 4, 5, 11, 7, 8, 9, 6, 10] (by kernel_rfl)
      have H3 := Sat.absorb (L := [_, _, stars (sts.map St.own), _, _, _]) (i := 2) (p := stars (emp :: wrO d (at_ + 1 + (sts.length : Int)) b.a 256 b.cap p q r)) (Sat.tail (A := [_, _, _, _, _, _]) H2) rfl
      obtain ⟨s1, hs1⟩ : ∃ s1 : St, s1 = ⟨wrV p q r, stars (emp :: wrO d (at_ + 1 + (sts.length : Int)) b.a 256 b.cap p q r), wrS (at_ + 1 + (sts.length : Int)) b.bs⟩ := ⟨_, rfl⟩
      have ht1 : bkHomes (l.take (sts.length + 1)) = bkHomes (l.take sts.length) ++ [b.at_.toNat] := by unfold bkHomes; rw [List.take_add_one, hb, Option.toList_some, List.map_append]; rfl
      have ht2 : bkData (l.take (sts.length + 1)) = bkData (l.take sts.length) ++ b.bs := by unfold bkData; rw [List.take_add_one, hb, Option.toList_some, List.flatMap_append, List.flatMap_cons, List.flatMap_nil, List.append_nil]
      have hlen : (sts ++ [s1]).length = sts.length + 1 := by rw [List.length_append, List.length_singleton]
      refine loopQ_A (a54, c54, ia2, hc2, da2, dc2, sts ++ [s1]) (by show n - (sts ++ [s1]).length < n - sts.length; omega) ⟨rfl, rfl, rfl, by show _ = Value.slice a54 (sts ++ [s1]).length c54; rw [hlen]; rfl, rfl, rfl, by show _ = Value.int .i64 ((sts ++ [s1]).length : Nat); rw [hlen]; rfl, trivial⟩ ⟨?_, ?_, ?_, ?_⟩
      · show (sts ++ [s1]).length ≤ n; omega
      · show (sts ++ [s1]).map St.st = (logS at_ l).take (sts ++ [s1]).length
        rw [hlen, List.take_add_one, hls, List.map_append, hst, hs1]; rfl
      · intro s hs
        rcases List.mem_append.1 hs with hs | hs
        · exact hstp s hs
        · obtain rfl := List.mem_singleton.1 hs
          rw [hs1]
          exact wr_stp (E := emp) fun w0 w' H' => by
            have := hC w0 w' (H'.only (i := 0) rfl) b hbm
            rwa [hbn] at this
      · show Sat w _ [_, blk b5 (.cells (lcells tu ia2 (sts ++ [s1]).length hc2 da2 (256 * (sts ++ [s1]).length) dc2).toArray 62 (0, 0)), stars ((sts ++ [s1]).map St.own), slo 3 1 ia2 (sts ++ [s1]).length hc2 ((bkHomes (l.take (sts ++ [s1]).length)).map natV), slo 5 1 da2 (256 * (sts ++ [s1]).length) dc2 (bys (bkData (l.take (sts ++ [s1]).length))), slo 95 1 a54 (sts ++ [s1]).length c54 ((sts ++ [s1]).map St.f)]
        rw [hlen, ht1, ht2, List.map_append, List.map_append, List.map_append, bys_app, hs1, Nat.mul_succ]
        have hat : natV b.at_.toNat = .int .i64 b.at_ := by unfold natV; rw [Int.toNat_of_nonneg hbo.lo]
        show Sat w _ [_, _, _, slo 3 1 ia2 (sts.length + 1) hc2 (_ ++ [natV b.at_.toNat]), _, _]
        rw [hat]
        exact H3
  · skip
    refine WP_exit ?_
    refine thenQ_e ?_
    refine loopQ_e ?_
    refine blockQ_hit ?_
    have hke : sts.length = n := by omega
    rw [hke, List.take_of_length_le (by omega)] at H
    rw [hke]
    rw [hke, List.take_of_length_le (by unfold logS; rw [List.length_map, List.length_range]; omega)] at hst
    have hbh : (bkHomes l).length = n := by unfold bkHomes; rw [List.length_map, hl]
    refine thenQ_n ?_
    refine WP_r rfl ?_
    refine s_val rfl (x_field (off := 0) (by kernel_rfl) rfl) ?_
    refine s_val rfl (x_load (by kernel_rfl) rfl (by first | exact hI.1 | exact hI.2 | exact hI.2.1 | exact hI.2.2 | exact hI.1.cell c0 | exact hI.1.cell c1 | exact H.cell (i := 1) rfl rfl | exact H.cell (i := 0) rfl rfl | exact H.ext.cell c3)) ?_
    refine s_val rfl (x_field (off := 1) (by kernel_rfl) rfl) ?_
    refine s_val rfl (x_load (by kernel_rfl) rfl (by first | exact hI.1 | exact hI.2 | exact hI.2.1 | exact hI.2.2 | exact hI.1.cell c0 | exact hI.1.cell c1 | exact H.cell (i := 1) rfl rfl | exact H.cell (i := 0) rfl rfl | exact H.ext.cell c3)) ?_
    refine s_val rfl (x_field (off := 2) (by kernel_rfl) rfl) ?_
    refine s_val rfl (x_load (by kernel_rfl) rfl (by first | exact hI.1 | exact hI.2 | exact hI.2.1 | exact hI.2.2 | exact hI.1.cell c0 | exact hI.1.cell c1 | exact H.cell (i := 1) rfl rfl | exact H.cell (i := 0) rfl rfl | exact H.ext.cell c3)) ?_
    refine s_call rfl (by kernel_rfl) (headed_calls (hh.ext H.ext) tu htu (H.rd (i := 3) rfl) (H.rd (i := 4) rfl) (by omega) (fun h hm => by obtain ⟨b, hb, rfl⟩ := List.mem_map.1 hm; have := hok b hb; have := this.lo; have := (hok b hb).hi; omega) (by omega)) rfl rfl ?_
    rintro _ _ ⟨rfl, e_⟩; replace H := H.more (Sat.nil e_); clear e_
    simp only [List.append_nil] at H
    have hfl : (bys (hdr tu (bkHomes l) (bkData l))).length = 256 := by rw [bys_length, hdr_len _ _ _ (by omega)]
    refine s_allocArr (m := 256) (z := .int .u8 0) rfl (by kernel_rfl) H ?_
    clear H; intro b9 _ H
    simp only [List.cons_append, List.nil_append] at H
    refine s_storeAll (n := 256) rfl (by kernel_rfl) rfl rfl hfl (bys_oneCell _) H (i := 6) rfl (List.length_replicate ..) ?_
    clear H
    intro _ H
    simp only [List.set_cons_zero, List.set_cons_succ] at H
    refine s_end ?_
    refine WP_rd (fun w_ => Ext w w_ ∧ w_.cell? ⟨b2, 0, none⟩ = some (pp v) ∧ True) (.float 0 (.float 1 (.float 2 (.float 3 (.float 4 (.float 5 (.float 6 (.float 7 (.float 8 (.float 9 (.float 10 (.float 11 (.float 12 (.float 13 (.float 14 (.float 16 (.float 17 (.float 18 (.float 19 (.float 20 (.fork [(15, .fork [(21, .fork [(22, .float 23 .done)])])]))))))))))))))))))))) (by kernel_rfl) (by kernel_rfl) ⟨H.ext, H.cell (i := 0) rfl rfl, trivial⟩ ?_
    replace H := H.drew
    refine r_val rfl rfl (fun w hI => x_move (by conv => lhs; whnf)) ?_
    refine r_val rfl rfl (fun w hI => x_load (by kernel_rfl) rfl (by first | exact hI.1 | exact hI.2 | exact hI.2.1 | exact hI.2.2 | exact hI.1.cell c0 | exact hI.1.cell c1 | exact H.cell (i := 1) rfl rfl | exact H.cell (i := 0) rfl rfl | exact H.ext.cell c3)) ?_
    refine r_val rfl rfl (fun w hI => x_nilCheck rfl) ?_
    refine r_val rfl rfl (fun w hI => x_field (off := 0) (by kernel_rfl) rfl) ?_
    refine r_val rfl rfl (fun w hI => x_load (by kernel_rfl) rfl (by first | exact hI.1 | exact hI.2 | exact hI.2.1 | exact hI.2.2 | exact hI.1.cell c0 | exact hI.1.cell c1 | exact H.cell (i := 1) rfl rfl | exact H.cell (i := 0) rfl rfl | exact H.ext.cell c3)) ?_
    refine r_val rfl rfl (fun w hI => x_makeFuncE (l1 := [_]) (l2 := []) ⟨(by conv => lhs; whnf), trivial⟩ trivial) ?_
    refine r_val rfl rfl (fun w hI => x_load (by kernel_rfl) rfl (by first | exact hI.1 | exact hI.2 | exact hI.2.1 | exact hI.2.2 | exact hI.1.cell c0 | exact hI.1.cell c1 | exact H.cell (i := 1) rfl rfl | exact H.cell (i := 0) rfl rfl | exact H.ext.cell c3)) ?_
    refine r_val rfl rfl (fun w hI => x_nilCheck rfl) ?_
    refine r_val rfl rfl (fun w hI => x_field (off := 0) (by kernel_rfl) rfl) ?_
    refine r_val rfl rfl (fun w hI => x_load (by kernel_rfl) rfl (by first | exact hI.1 | exact hI.2 | exact hI.2.1 | exact hI.2.2 | exact hI.1.cell c0 | exact hI.1.cell c1 | exact H.cell (i := 1) rfl rfl | exact H.cell (i := 0) rfl rfl | exact H.ext.cell c3)) ?_
    refine r_val rfl rfl (fun w hI => x_load (by kernel_rfl) rfl (by first | exact hI.1 | exact hI.2 | exact hI.2.1 | exact hI.2.2 | exact hI.1.cell c0 | exact hI.1.cell c1 | exact H.cell (i := 1) rfl rfl | exact H.cell (i := 0) rfl rfl | exact H.ext.cell c3)) ?_
    refine r_val rfl rfl (fun w hI => x_nilCheck rfl) ?_
    refine r_val rfl rfl (fun w hI => x_field (off := 1) (by kernel_rfl) rfl) ?_
    refine r_val rfl rfl (fun w hI => x_load (by kernel_rfl) rfl (by first | exact hI.1 | exact hI.2 | exact hI.2.1 | exact hI.2.2 | exact hI.1.cell c0 | exact hI.1.cell c1 | exact H.cell (i := 1) rfl rfl | exact H.cell (i := 0) rfl rfl | exact H.ext.cell c3)) ?_
    refine r_val rfl rfl (fun w hI => x_sliceArr (m := 256) (e := 5) (by kernel_rfl) (by kernel_rfl) rfl) ?_
    refine r_val rfl rfl (fun w hI => x_load (by kernel_rfl) rfl (by first | exact hI.1 | exact hI.2 | exact hI.2.1 | exact hI.2.2 | exact hI.1.cell c0 | exact hI.1.cell c1 | exact H.cell (i := 1) rfl rfl | exact H.cell (i := 0) rfl rfl | exact H.ext.cell c3)) ?_
    refine r_val rfl rfl (fun w hI => x_nilCheck rfl) ?_
    refine r_val rfl rfl (fun w hI => x_field (off := 0) (by kernel_rfl) rfl) ?_
    refine r_val rfl rfl (fun w hI => x_load (by kernel_rfl) rfl (by first | exact hI.1 | exact hI.2 | exact hI.2.1 | exact hI.2.2 | exact hI.1.cell c0 | exact hI.1.cell c1 | exact H.cell (i := 1) rfl rfl | exact H.cell (i := 0) rfl rfl | exact H.ext.cell c3)) ?_
    refine r_val rfl rfl (fun w hI => x_makeFuncE (l1 := [_]) (l2 := []) ⟨(by conv => lhs; whnf), trivial⟩ trivial) ?_
    refine r_one rfl ?_
    refine s_call rfl (by kernel_rfl) (write_calls d at_ (some ⟨b9, 0, none⟩) 256 256) rfl rfl ?_
    rintro _ w10 ⟨p, q, r, rfl, H4⟩
    replace H := H.more H4
    clear H4
    simp only [List.cons_append, List.nil_append, wrO] at H
    refine s_end ?_
    refine ⟨⟨H.ext, H.cell (i := 0) rfl rfl, trivial⟩, ?_⟩
    refine r_one rfl ?_
    refine s_buildSliceE (vs := [_, _, _]) rfl (show SlT Tryd.prog 66 95 1 8 from ⟨by kernel_rfl, by kernel_rfl⟩) (show ∃ z, ZeroT Tryd.prog 95 z ∧ z.cells.size = 1 from ⟨_, (show ZeroT Tryd.prog 95 (.nilFunc) by unfold ZeroT; kernel_rfl), rfl⟩) rfl ⟨(by conv => lhs; whnf), (by conv => lhs; whnf), (by conv => lhs; whnf), trivial⟩ rfl (by simp [Value.cells]) (by decide) H ?_
    clear H; intro b84 _ H
    simp only [List.cons_append, List.nil_append, List.flatMap_cons, List.flatMap_nil, Value.cells, List.append_nil] at H
    refine s_end ?_
    refine ⟨⟨H.ext, H.cell (i := 0) rfl rfl, trivial⟩, ?_⟩
    refine r_one rfl ?_
    refine s_append rfl (show SlT Tryd.prog 66 95 1 8 from ⟨by kernel_rfl, by kernel_rfl⟩) (show ∃ z, ZeroT Tryd.prog 95 z ∧ z.cells.size = 1 from ⟨_, (show ZeroT Tryd.prog 95 (.nilFunc) by unfold ZeroT; kernel_rfl), rfl⟩) ⟨_, (show SlT Tryd.prog 66 95 1 8 from ⟨by kernel_rfl, by kernel_rfl⟩).und⟩ rfl rfl H (i := 5) rfl (H.rd (i := 10) rfl) (by first | exact bys_oneCell _ | (intro u hu; simp at hu; rcases hu with rfl | rfl | rfl | rfl <;> rfl) | (intro u hu; simp at hu; subst hu; rfl) | (intro u hu; obtain ⟨_, _, rfl⟩ := List.mem_map.1 hu; rfl)) (by omega) (by omega) ?_
    clear H; intro a85 c85 _ H
    simp only [List.set_cons_zero, List.set_cons_succ] at H
    refine s_end ?_
    refine ⟨⟨H.ext, H.cell (i := 0) rfl rfl, trivial⟩, ?_⟩
    refine r_val rfl rfl (fun w hI => x_assign (by conv => lhs; whnf)) ?_
    refine r_done ?_
    refine WP_r rfl ?_
    refine s_val rfl (x_move (by conv => lhs; whnf)) ?_
    refine s_val rfl (x_makeFuncE (l1 := []) (l2 := [_, _]) trivial ⟨(by conv => lhs; whnf), (by conv => lhs; whnf), trivial⟩) ?_
    refine s_buildSliceE (vs := [_]) rfl (show SlT Tryd.prog 66 95 1 8 from ⟨by kernel_rfl, by kernel_rfl⟩) (show ∃ z, ZeroT Tryd.prog 95 z ∧ z.cells.size = 1 from ⟨_, (show ZeroT Tryd.prog 95 (.nilFunc) by unfold ZeroT; kernel_rfl), rfl⟩) rfl ⟨(by conv => lhs; whnf), trivial⟩ rfl (by simp [Value.cells]) (by decide) H ?_
    clear H; intro b88 _ H
    simp only [List.cons_append, List.nil_append, List.flatMap_cons, List.flatMap_nil, Value.cells, List.append_nil] at H
    refine s_append rfl (show SlT Tryd.prog 66 95 1 8 from ⟨by kernel_rfl, by kernel_rfl⟩) (show ∃ z, ZeroT Tryd.prog 95 z ∧ z.cells.size = 1 from ⟨_, (show ZeroT Tryd.prog 95 (.nilFunc) by unfold ZeroT; kernel_rfl), rfl⟩) ⟨_, (show SlT Tryd.prog 66 95 1 8 from ⟨by kernel_rfl, by kernel_rfl⟩).und⟩ rfl rfl H (i := 5) rfl (H.rd (i := 11) rfl) (by first | exact bys_oneCell _ | (intro u hu; simp at hu; rcases hu with rfl | rfl | rfl | rfl <;> rfl) | (intro u hu; simp at hu; subst hu; rfl) | (intro u hu; obtain ⟨_, _, rfl⟩ := List.mem_map.1 hu; rfl)) (by omega) (by omega) ?_
    clear H; intro a89 c89 _ H
    simp only [List.set_cons_zero, List.set_cons_succ] at H
    refine s_val rfl (x_assign (by conv => lhs; whnf)) ?_
    refine s_end ?_
    refine WP_rd (fun w_ => Ext w w_ ∧ w_.cell? ⟨b2, 0, none⟩ = some (pp v) ∧ ∀ j u, (lcells tu ia n hc da (256 * n) dc)[j]? = some u → w_.cell? ⟨b5, j, none⟩ = some u) (.float 0 (.float 1 (.float 2 (.float 3 (.float 4 (.float 5 (.float 6 (.float 7 (.float 8 (.float 9 (.fork [(10, .fork [(11, .float 12 .done)])]))))))))))) (by kernel_rfl) (by kernel_rfl) ⟨H.ext, H.cell (i := 0) rfl rfl, fun j u hj => H.cellsAt (i := 1) rfl hj⟩ ?_
    replace H := H.drew
    refine r_val rfl rfl (fun w hI => x_move (by conv => lhs; whnf)) ?_
    refine r_val rfl rfl (fun w hI => x_load (by kernel_rfl) rfl (by first | exact hI.1 | exact hI.2 | exact hI.2.1 | exact hI.2.2 | exact hI.1.cell c0 | exact hI.1.cell c1 | exact H.cell (i := 1) rfl rfl | exact H.cell (i := 0) rfl rfl | exact H.ext.cell c3)) ?_
    refine r_val rfl rfl (fun w hI => x_nilCheck rfl) ?_
    refine r_val rfl rfl (fun w hI => x_field (off := 0) (by kernel_rfl) rfl) ?_
    refine r_val rfl rfl (fun w hI => x_load (by kernel_rfl) rfl (by first | exact hI.1 | exact hI.2 | exact hI.2.1 | exact hI.2.2 | exact hI.1.cell c0 | exact hI.1.cell c1 | exact H.cell (i := 1) rfl rfl | exact H.cell (i := 0) rfl rfl | exact H.ext.cell c3)) ?_
    refine r_val rfl rfl (fun w hI => x_load (by kernel_rfl) rfl (by first | exact hI.1 | exact hI.2 | exact hI.2.1 | exact hI.2.2 | exact hI.1.cell c0 | exact hI.1.cell c1 | exact H.cell (i := 1) rfl rfl | exact H.cell (i := 0) rfl rfl | exact H.ext.cell c3)) ?_
    refine r_val rfl rfl (fun w hI => x_nilCheck rfl) ?_
    refine r_val rfl rfl (fun w hI => x_field (off := 1) (by kernel_rfl) rfl) ?_
    refine r_val rfl rfl (fun w hI => x_load (by kernel_rfl) rfl (by first | exact hI.1 | exact hI.2 | exact hI.2.1 | exact hI.2.2 | exact hI.1.cell c0 | exact hI.1.cell c1 | exact H.cell (i := 1) rfl rfl | exact H.cell (i := 0) rfl rfl | exact H.ext.cell c3)) ?_
    refine r_val rfl rfl (fun w hI => x_loadA (n := 3) (off := 0) (cs := lcells tu ia n hc da (256 * n) dc) (by kernel_rfl) rfl rfl (fun j u hj => by rw [Nat.zero_add]; exact hI.2.2 j u hj)) ?_
    refine r_one rfl ?_
    refine s_call rfl (by kernel_rfl) (home_calls H hh at_ tu htu (H.rd (i := 3) rfl) (by omega) (by omega) (H.rd (i := 4) rfl).2.1 (fun t => WALb v d at_ most t off) (stars [C, slo 5 1 da (256 * n) dc (bys (bkData l))]) (fun w0 w' H' => (Sat.unall (L := [C, slo 5 1 da (256 * n) dc (bys (bkData l))]) (N := []) H').rd (i := 1) rfl)) rfl rfl ?_
    clear H
    rintro _ _ ⟨a14, n14, c14, sth, rfl, rfl, hsth, hstph, H⟩
    simp only [List.cons_append, List.nil_append] at H
    refine s_end ?_
    refine ⟨⟨H.ext, H.cell (i := 0) rfl rfl, fun j u hj => H.cellsAt (i := 1) rfl hj⟩, ?_⟩
    refine r_one rfl ?_
    refine s_append rfl (show SlT Tryd.prog 66 95 1 8 from ⟨by kernel_rfl, by kernel_rfl⟩) (show ∃ z, ZeroT Tryd.prog 95 z ∧ z.cells.size = 1 from ⟨_, (show ZeroT Tryd.prog 95 (.nilFunc) by unfold ZeroT; kernel_rfl), rfl⟩) ⟨_, (show SlT Tryd.prog 66 95 1 8 from ⟨by kernel_rfl, by kernel_rfl⟩).und⟩ rfl rfl H (i := 5) rfl (H.rd (i := 13) rfl) (Stp.ones hstph) (by omega) (by omega) ?_
    clear H; intro a101 c101 _ H
    simp only [List.set_cons_zero, List.set_cons_succ] at H
    refine s_end ?_
    refine ⟨⟨H.ext, H.cell (i := 0) rfl rfl, fun j u hj => H.cellsAt (i := 1) rfl hj⟩, ?_⟩
    refine r_val rfl rfl (fun w hI => x_assign (by conv => lhs; whnf)) ?_
    refine r_done ?_
    refine WP_ret ?_
    refine retQ_1 rfl (by conv => lhs; whnf) ?_
    have H1 : Sat w _ ([slo 5 1 da (256 * n) dc (bys (bkData l)), _, stars (sts.map St.own), stars (sth.map St.own), emp, emp, blk b5 (.cells (lcells tu ia n hc da (256 * n) dc).toArray 62 (0, 0)), blk b2 (.cells #[pp v] 24 (0, 0))] ++ (blk b9 (.cells (bys (hdr tu (bkHomes l) (bkData l))).toArray 93 (0, 0)) :: wrO d at_ (some ⟨b9, 0, none⟩) 256 256 p q r)) := H.re 2 12 [4, 5, 2, 12, 14, 15, 1, 0, 6, 7, 8, 9, 3, 10, 11, 13] (by kernel_rfl)
    have H2 : Sat w _ ([slo 5 1 da (256 * n) dc (bys (bkData l)), _, stars (sts.map St.own), stars (sth.map St.own), emp, emp, _] ++ [blk b5 (.cells (lcells tu ia n hc da (256 * n) dc).toArray 62 (0, 0)), blk b2 (.cells #[pp v] 24 (0, 0))]) := H1.tail.re 0 9 [0, 1, 2, 3, 4, 5, 8, 6, 7] (by kernel_rfl)
    have H3 : Sat w _ ([slo 5 1 da (256 * n) dc (bys (bkData l)), _, stars (sts.map St.own), stars (sth.map St.own)] ++ [emp, _, emp, _]) := H2.tail.re 0 8 [0, 1, 2, 3, 4, 6, 5, 7] (by kernel_rfl)
    have H4 := (H3.tail.re 0 5 [0, 1, 2, 4, 3] (by kernel_rfl)).merge3
    obtain ⟨four, hfour⟩ : ∃ four : List St, four = [⟨syV d, emp, syS⟩, ⟨wrV p q r, stars (blk b9 (.cells (bys (hdr tu (bkHomes l) (bkData l))).toArray 93 (0, 0)) :: wrO d at_ (some ⟨b9, 0, none⟩) 256 256 p q r), wrS at_ (hdr tu (bkHomes l) (bkData l))⟩, ⟨syV d, emp, syS⟩,
      ⟨.func (.func 61) #[] #[pp b5, pp b2], stars [blk b5 (.cells (lcells tu ia n hc da (256 * n) dc).toArray 62 (0, 0)), blk b2 (.cells #[pp v] 24 (0, 0))], tuS tu⟩] := ⟨_, rfl⟩
    refine ⟨_, _, _, slo 5 1 da (256 * n) dc (bys (bkData l)), sts ++ four ++ sth, rfl, by omega, ?_, ?_, ?_⟩
    · rw [List.map_append, List.map_append, hst, hsth, hfour]
      unfold stepsS
      rw [htue, List.append_assoc]; rfl
    · intro s hs
      rcases List.mem_append.1 hs with hs | hs
      · rcases List.mem_append.1 hs with hs | hs
        · exact (hstp s hs).weaken
        · rw [hfour] at hs
          simp only [List.mem_cons, List.not_mem_nil, or_false] at hs
          rcases hs with rfl | rfl | rfl | rfl
          · exact sy_stp
          · exact wr_stp (E := blk b9 (.cells (bys (hdr tu (bkHomes l) (bkData l))).toArray 93 (0, 0))) fun w0 w' H' => rd_blk H' (i := 1) rfl hfl
          · exact sy_stp
          · exact tu_stp
      · exact hstph s hs
    · have e1 : (sts ++ four ++ sth).map St.own = sts.map St.own ++ four.map St.own ++ sth.map St.own := by rw [List.map_append, List.map_append]
      have e2 : (sts ++ four ++ sth).map St.f = sts.map St.f ++ [syV d, wrV p q r, syV d] ++ [.func (.func 61) #[] #[pp b5, pp b2]] ++ sth.map St.f := by rw [List.map_append, List.map_append, hfour]; simp only [List.append_assoc, List.map_cons, List.map_nil, List.cons_append, List.nil_append]
      rw [e1, e2, hfour]
      exact H4
end Go.Sl
/- A commit. -/
namespace Go.Sl
open Go.Proofs

/-- Blocks as pairs. -/
abbrev Ps := List (Int × List UInt8)
def bkP (l : List Bk) : Ps := l.map fun b => (b.at_, b.bs)
def psHomes (l : Ps) : List Nat := l.map fun p => p.1.toNat
def psData (l : Ps) : List UInt8 := l.flatMap fun p => p.2
def logP (at_ : Int) (l : Ps) : List (WS → Int × WS) := (List.range l.length).map fun (i : Nat) => wrS (at_ + 1 + i) (l.getD i (0, [])).2
def stepsP (at_ : Int) (t : Nat) (l : Ps) : List (WS → Int × WS) :=
  logP at_ l ++ (syS :: wrS at_ (hdr (turnUp t) (psHomes l) (psData l)) :: syS :: tuS (turnUp t : Nat) :: homeS at_ (turnUp t) (psHomes l) (psData l))
theorem stepsS_eq (at_ : Int) (t : Nat) (l : List Bk) : stepsS at_ t l = stepsP at_ t (bkP l) := by
  have h1 : bkHomes l = psHomes (bkP l) := by unfold bkHomes psHomes bkP; rw [List.map_map]; rfl
  have h2 : bkData l = psData (bkP l) := by unfold bkData psData bkP; rw [List.flatMap_map]
  have h3 : logS at_ l = logP at_ (bkP l) := by
    unfold logS logP bkP
    rw [List.length_map]
    refine List.map_congr_left fun i hi => ?_
    have hi := List.mem_range.1 hi
    rw [List.getD_eq_getElem?_getD, List.getD_eq_getElem?_getD, List.getElem?_map, List.getElem?_eq_getElem hi]; rfl
  unfold stepsS stepsP
  rw [h1, h2, h3]
def psLe (p q : Int × List UInt8) : Bool := decide (p.1 ≤ q.1)
def psSort (l : Ps) : Ps := l.mergeSort psLe
theorem psSort_eq {l m : Ps} (hp : m.Perm l) (hs : m.Pairwise fun p q => p.1 ≤ q.1) (hn : (l.map (·.1)).Nodup) : m = psSort l := by
  have h1 : (psSort l).Pairwise fun p q => p.1 ≤ q.1 := by
    have := List.pairwise_mergeSort (le := psLe) (fun a b c h1 h2 => by simp only [psLe, decide_eq_true_eq] at *; omega) (fun a b => by simp only [psLe, Bool.or_eq_true, decide_eq_true_eq]; omega) l
    exact this.imp fun h => by simpa [psLe] using h
  have h2 : m.Perm (psSort l) := hp.trans (List.mergeSort_perm l psLe).symm
  have hnm : (m.map (·.1)).Nodup := (hp.map _).nodup_iff.2 hn
  have strict : ∀ q : Ps, (q.Pairwise fun p q => p.1 ≤ q.1) → (q.map (·.1)).Nodup → q.Pairwise fun p q => p.1 < q.1 := fun q hq hd => by
    rw [List.nodup_iff_pairwise_ne, List.pairwise_map] at hd
    exact (hq.and hd).imp fun ⟨a, b⟩ => by omega
  have hns : ((psSort l).map (·.1)).Nodup := ((List.mergeSort_perm l psLe).map _).nodup_iff.2 hn
  have key : ∀ (a b : Ps), (a.Pairwise fun p q => p.1 < q.1) → (b.Pairwise fun p q => p.1 < q.1) → a.Perm b → a = b := by
    intro a
    induction a with
    | nil => intro b _ _ h; exact (List.nil_perm.1 h).symm
    | cons x a ih =>
      intro b ha hb h
      cases b with
      | nil => exact absurd h (by simp)
      | cons y b =>
        have hx := List.pairwise_cons.1 ha
        have hy := List.pairwise_cons.1 hb
        have e : x = y := by
          have hxm : x ∈ y :: b := h.mem_iff.1 (List.mem_cons_self ..)
          have hym : y ∈ x :: a := h.mem_iff.2 (List.mem_cons_self ..)
          rcases List.mem_cons.1 hxm with e | e
          · exact e
          · rcases List.mem_cons.1 hym with f | f
            · exact f.symm
            · have := hy.1 x e; have := hx.1 y f; omega
        subst e
        rw [ih b hx.2 hy.2 (List.Perm.cons_inv h)]
  exact key m _ (strict m hs hnm) (strict _ h1 hns) h2
/-- What a commit comes to. -/
structure Cm where
  e : Int
  x : D
  t : Int
  off : Bool
def psBad (x : D) (home : Int) (l : Ps) : Prop := (∃ p ∈ l, p.1 < home ∨ (x.vals.length : Int) ≤ p.1 ∨ p.2.length ≠ 256) ∨ ¬ (l.map (·.1)).Nodup
open Classical in
noncomputable def commitP (x : D) (t : Nat) (at_ most : Int) (off : Bool) (l : Ps) : Cm :=
  if psBad x (at_ + most + 1) l then ⟨2, x, t, off⟩ else if most < l.length then ⟨4, x, t, off⟩ else if l = [] then ⟨0, x, t, off⟩ else if off = true then ⟨10, x, t, off⟩ else
  ⟨(runSt (stepsP at_ t (psSort l)) (x, t)).1, (runSt (stepsP at_ t (psSort l)) (x, t)).2.1, (runSt (stepsP at_ t (psSort l)) (x, t)).2.2, decide (¬ (runSt (stepsP at_ t (psSort l)) (x, t)).1 = 0)⟩
theorem stepsP_len (at_ : Int) (t : Nat) (l : Ps) : (stepsP at_ t l).length = 2 * l.length + 7 := by
  unfold stepsP logP
  rw [List.length_append, List.length_map, List.length_range, List.length_cons, List.length_cons, List.length_cons, List.length_cons, homeS_len]
  unfold psHomes
  rw [List.length_map]; omega
theorem bkP_len (l : List Bk) : (bkP l).length = l.length := List.length_map ..
theorem dup_bad {x : D} {home : Int} {l l' : List Bk} (hp : l'.Perm l) {k : Nat} {b c : Bk} (hk : 0 < k) (hc : l'[k - 1]? = some c) (hb : l'[k]? = some b) (e : c.at_ = b.at_) : psBad x home (bkP l) := by
  refine .inr fun hn => ?_
  have h1 : ((bkP l').map (·.1)).Nodup := ((hp.map fun b => (b.at_, b.bs)).map (·.1)).nodup_iff.2 hn
  have h2 : ((bkP l').map (·.1))[k - 1]? = some c.at_ := by unfold bkP; rw [List.map_map, List.getElem?_map, hc]; rfl
  have h3 : ((bkP l').map (·.1))[k]? = some b.at_ := by unfold bkP; rw [List.map_map, List.getElem?_map, hb]; rfl
  obtain ⟨g1, g2⟩ := List.getElem?_eq_some_iff.1 h2
  obtain ⟨g3, g4⟩ := List.getElem?_eq_some_iff.1 h3
  exact (List.pairwise_iff_getElem.1 (List.nodup_iff_pairwise_ne.1 h1)) (k - 1) k g1 g3 (by omega) (by rw [g2, g4, e])
theorem good_step {x : D} {home : Int} {l' : List Bk} {k : Nat} {b : Bk} (h : ∀ j b, j < k → l'[j]? = some b → home ≤ b.at_ ∧ b.at_ < x.vals.length ∧ b.n = 256) (hb : l'[k]? = some b) (g : home ≤ b.at_ ∧ b.at_ < x.vals.length ∧ b.n = 256) :
    ∀ j b, j < k + 1 → l'[j]? = some b → home ≤ b.at_ ∧ b.at_ < x.vals.length ∧ b.n = 256 := fun j c hj hc => by
  by_cases e : j = k
  · subst e; rw [hb] at hc; injection hc with hc; subst hc; exact g
  · exact h j c (by omega) hc
theorem adj_step {l' : List Bk} {k : Nat} {b : Bk} (h : ∀ j b c, j + 1 < k → l'[j]? = some b → l'[j + 1]? = some c → b.at_ ≠ c.at_) (hb : l'[k]? = some b) (g : ∀ c, 0 < k → l'[k - 1]? = some c → c.at_ ≠ b.at_) :
    ∀ j b c, j + 1 < k + 1 → l'[j]? = some b → l'[j + 1]? = some c → b.at_ ≠ c.at_ := fun j c e hj hc he => by
  by_cases q : j + 1 = k
  · rw [q, hb] at he; injection he with he; subst he
    exact g c (by omega) (by rw [show k - 1 = j by omega]; exact hc)
  · exact h j c e (by omega) hc he
theorem strict_of {l' : List Bk} (hs : Sorted l') (h : ∀ j b c, j + 1 < l'.length → l'[j]? = some b → l'[j + 1]? = some c → b.at_ ≠ c.at_) : l'.Pairwise fun a b => a.at_ < b.at_ := by
  refine List.pairwise_iff_getElem.2 fun i j hi hj hij => ?_
  have hs' := List.pairwise_iff_getElem.1 hs
  have h1 : l'[j - 1].at_ ≤ l'[j].at_ := hs' (j - 1) j (by omega) hj (by omega)
  have h2 : l'[j - 1].at_ ≠ l'[j].at_ := h (j - 1) _ _ (by omega) (List.getElem?_eq_getElem (by omega)) (by rw [show j - 1 + 1 = j by omega]; exact List.getElem?_eq_getElem hj)
  by_cases e : i = j - 1
  · subst e; omega
  · have h3 : l'[i].at_ ≤ l'[j - 1].at_ := hs' i (j - 1) hi (by omega) (by omega)
    omega
theorem commitP_bad {x : D} {t : Nat} {at_ most : Int} {off : Bool} {l : Ps} (h : psBad x (at_ + most + 1) l) : commitP x t at_ most off l = ⟨2, x, t, off⟩ := by unfold commitP; rw [if_pos h]
theorem Commit_calls {w0 w : World} {v d B : Nat} {x : D} {at_ most : Int} {t : Nat} {off : Bool} {F : HP} {a : Option Addr} {n cap : Nat} {l : List Bk} (H : Sat w0 w [DK d x, WALb v d at_ most t off, F]) (hh : Half w0) (ht : t < 4294967296) (ha : 0 ≤ at_ ∧ at_ < 60000) (hmost : 1 ≤ most ∧ most ≤ 100)
    (hF : ∀ w0 w', Sat w0 w' [F] → Rd w' a n cap 2 (bkCells l) ∧ ∀ b ∈ l, Rd w' b.a b.n b.cap 1 (bys b.bs)) (hn : n ≤ 1000000000000) (hB1 : 1 ≤ B) (hB : SmallV B x.vals) (hb : B < 1000000000000) :
    Calls Tryd.prog 11 #[pp v, .slice a n cap] w (Ret fun r w' => r = .int .i64 (commitP x t at_ most off (bkP l)).e ∧
      Sat w0 w' [DK d (commitP x t at_ most off (bkP l)).x, WALb v d at_ most (commitP x t at_ most off (bkP l)).t (commitP x t at_ most off (bkP l)).off, F]) := by
  have hF0 := hF w0 w (H.only (i := 2) rfl)
  have hl : l.length = n := by have := hF0.1.1; rw [bkCells_len] at this; omega
  have hbl : ∀ b ∈ l, b.bs.length = b.n := fun b hb => by have := (hF0.2 b hb).1; rw [bys_length] at this; omega
  have hpos := (H.hd (i := 0) rfl).ok.big
  refine calls_of Tryd.func11 rfl rfl ?_
  refine WP_r rfl ?_
  refine s_val rfl (x_assign (by conv => lhs; whnf)) ?_
  refine s_end ?_
  refine WP_seq ?_
  refine WP_r rfl ?_
  refine s_val rfl (x_move (by conv => lhs; whnf)) ?_
  refine s_call rfl (by kernel_rfl) (wis_calls (H.wal (i := 1) rfl).c0) rfl rfl ?_
  rintro _ w_ ⟨rfl, e_⟩; replace e_ := e_.symm; subst e_
  refine s_val rfl (x_not rfl) ?_
  refine s_end ?_
  refine WP_cond_false rfl ?_
  refine WP_skip ?_
  refine thenQ_n ?_
  refine WP_r rfl ?_
  refine s_val rfl (x_move (by conv => lhs; whnf)) ?_
  refine s_call rfl (by kernel_rfl) (CloneK_calls hF0.1 hn) rfl rfl ?_
  rintro _ _ ⟨a2, c2, rfl, H_⟩; replace H := H.more H_; clear H_
  simp only [List.cons_append, List.nil_append] at H
  refine s_val rfl (x_assign (by conv => lhs; whnf)) ?_
  refine s_end ?_
  refine WP_r rfl ?_
  refine s_val rfl (x_move (by conv => lhs; whnf)) ?_
  refine s_call rfl (by kernel_rfl) (SortF_calls H (i := 3) rfl (by omega)) rfl rfl ?_
  clear H
  rintro _ _ ⟨rfl, l', hperm, hsrt, H⟩
  simp only [List.set_cons_zero, List.set_cons_succ] at H
  have hl' : l'.length = n := by rw [hperm.length_eq, hl]
  have hmem : ∀ b, b ∈ l' ↔ b ∈ l := fun b => hperm.mem_iff
  refine s_end ?_
  refine WP_seq ?_
  refine WP_r rfl ?_
  refine s_val rfl (x_move (by conv => lhs; whnf)) ?_
  refine s_val rfl (x_lenS (by kernel_rfl) rfl) ?_
  refine s_val rfl (x_move (by conv => lhs; whnf)) ?_
  refine s_end ?_
  refine WP_block ?_
  refine WP_loopA (α := Nat) (fun k => [(0, pp v), (1, .slice a2 n c2), (15, .slice a2 n c2), (16, .int .i64 n), (17, .int .i64 k)]) (fun k w' => k ≤ n ∧ (∀ j b, j < k → l'[j]? = some b → at_ + most + 1 ≤ b.at_ ∧ b.at_ < x.vals.length ∧ b.n = 256) ∧ (∀ j b c, j + 1 < k → l'[j]? = some b → l'[j + 1]? = some c → b.at_ ≠ c.at_) ∧
    Sat w0 w' [DK d x, WALb v d at_ most t off, F, slo 48 2 a2 n c2 (bkCells l')]) (fun k => n - k) 0 ⟨rfl, rfl, rfl, rfl, rfl, trivial⟩ ⟨Nat.zero_le _, (fun j b hj => absurd hj (Nat.not_lt_zero j)), (fun j b c hj => absurd hj (Nat.not_lt_zero _)), H⟩ ?_
  clear H
  rintro k ρ w5 ⟨hk, hgood, hadj, H⟩
  refine WP_r rfl ?_
  refine s_val rfl (x_lss rfl rfl) ?_
  refine s_end ?_
  refine WP_seq ?_
  refine WP_cond_dec rfl (fun h1 => ?_) (fun h1 => ?_)
  · skip
    refine WP_skip ?_
    refine thenQ_n ?_
    refine WP_seq ?_
    refine WP_block ?_
    obtain ⟨b, hb⟩ : ∃ b, l'[k]? = some b := ⟨_, List.getElem?_eq_getElem (by omega)⟩
    have hbm := (hmem b).1 (List.mem_of_getElem? hb)
    have htk := bkCells_take l' k b hb
    have hcl := bkCells_len l'
    have HK2 := H.rd (i := 3) rfl
    refine WP_r rfl ?_
    refine s_val rfl (x_move (by conv => lhs; whnf)) ?_
    refine s_val rfl (x_index (show SlT Tryd.prog 35 48 2 32 from ⟨by kernel_rfl, by kernel_rfl⟩) rfl rfl (by omega) (by omega) HK2) ?_
    refine s_val rfl (x_loadRA (m := 2) (by kernel_rfl) rfl HK2 (by omega) (by decide)) ?_
    rw [show (k : Int).toNat * 2 = k * 2 by omega, htk]
    refine s_allocA rfl (show ZeroT Tryd.prog 48 (.agg #[.int .i64 0, .slice none 0 0]) by unfold ZeroT; kernel_rfl) H ?_
    clear H; intro b6 _ H
    simp only [List.cons_append, List.nil_append] at H
    refine s_val rfl (x_assign (by conv => lhs; whnf)) ?_
    refine s_storeAll rfl (n := 2) (by kernel_rfl) rfl rfl rfl (bkCells_one [b] · <| by simpa [bkCells] using ·) H (i := 4) rfl rfl ?_
    clear H; intro _ H
    simp only [List.set_cons_zero, List.set_cons_succ] at H
    refine s_end ?_
    clear HK2
    refine WP_rd (fun w_ => Sat _ w_ _) (.float 0 (.float 1 (.float 2 (.fork [(3, .float 4 (.float 5 (.float 6 (.float 7 (.float 8 (.float 9 (.float 10 (.float 11 (.fork [(12, .float 13 (.float 14 (.float 15 (.float 16 (.float 17 (.float 18 (.float 19 (.float 20 (.float 21 (.float 22 (.float 23 (.float 24 (.float 25 (.float 26 (.float 27 (.float 28 (.float 29 (.float 30 (.float 31 (.float 32 (.float 33 (.float 34 (.float 35 .done)))))))))))))))))))))))])))))))))])))) (by kernel_rfl) (by kernel_rfl) H.drew ?_
    replace H := H.drew
    refine r_val rfl rfl (fun w hI => x_field (off := 0) (by kernel_rfl) rfl) ?_
    refine r_val rfl rfl (fun w hI => x_load (by kernel_rfl) rfl (by first | exact hI.cellsAt (i := 4) rfl rfl | exact hI.cellsAt (i := 1) rfl rfl)) ?_
    refine r_val rfl rfl (fun w hI => x_move (by conv => lhs; whnf)) ?_
    refine r_one rfl ?_
    refine s_call rfl (by kernel_rfl) (Home_calls (H.wal (i := 1) rfl) (by omega) (by omega)) rfl rfl ?_
    rintro _ _ ⟨rfl, e_⟩; replace H := H.heapEq e_; clear e_
    refine s_end ?_
    refine ⟨H, ?_⟩
    refine r_val rfl rfl (fun w hI => x_lss rfl rfl) ?_
    refine r_dec rfl rfl (fun w hI => x_move rfl) (fun h2 => ?_) (fun h2 => ?_)
    · skip
      refine r_out rfl rfl ?_
      refine r_out rfl rfl ?_
      refine r_out rfl rfl ?_
      refine r_out rfl rfl ?_
      refine r_out rfl rfl ?_
      refine r_out rfl rfl ?_
      refine r_one rfl ?_
      refine s_out rfl ?_
      refine s_end ?_
      refine ⟨H, ?_⟩
      refine r_out rfl rfl ?_
      refine r_val rfl rfl (fun w hI => x_pick_true rfl (by conv => lhs; whnf)) ?_
      refine r_val rfl rfl (fun w hI => x_move (by conv => lhs; whnf)) ?_
      refine r_out rfl rfl ?_
      refine r_out rfl rfl ?_
      refine r_out rfl rfl ?_
      refine r_out rfl rfl ?_
      refine r_val rfl rfl (fun w hI => x_pick_true rfl (by conv => lhs; whnf)) ?_
      refine r_val rfl rfl (fun w hI => x_move (by conv => lhs; whnf)) ?_
      refine r_out rfl rfl ?_
      refine r_out rfl rfl ?_
      refine r_out rfl rfl ?_
      refine r_out rfl rfl ?_
      refine r_out rfl rfl ?_
      refine r_out rfl rfl ?_
      refine r_out rfl rfl ?_
      refine r_out rfl rfl ?_
      refine r_out rfl rfl ?_
      refine r_out rfl rfl ?_
      refine r_out rfl rfl ?_
      refine r_out rfl rfl ?_
      refine r_out rfl rfl ?_
      refine r_val rfl rfl (fun w hI => x_pick_true rfl (by conv => lhs; whnf)) ?_
      refine r_done ?_
      refine WP_cond_true rfl ?_
      refine WP_r rfl ?_
      refine s_val rfl (x_assign (by conv => lhs; whnf)) ?_
      refine s_end ?_
      refine WP_ret ?_
      refine blockQ_r ?_
      refine thenQ_r ?_
      refine loopQ_r ?_
      refine blockQ_r ?_
      refine thenQ_r ?_
      refine retQ_1 rfl (by conv => lhs; whnf) ?_
      have hbad : psBad x (at_ + most + 1) (bkP l) := by
        first
          | exact .inl ⟨(b.at_, b.bs), List.mem_map.2 ⟨b, hbm, rfl⟩, .inl (show b.at_ < at_ + most + 1 by omega)⟩
          | exact .inl ⟨(b.at_, b.bs), List.mem_map.2 ⟨b, hbm, rfl⟩, .inr (.inl (show (x.vals.length : Int) ≤ b.at_ by omega))⟩
          | exact .inl ⟨(b.at_, b.bs), List.mem_map.2 ⟨b, hbm, rfl⟩, .inr (.inr (show b.bs.length ≠ 256 by rw [hbl b hbm]; omega))⟩
          | exact dup_bad hperm (by omega) hc hb (by assumption)
      rw [commitP_bad hbad]
      exact ⟨rfl, H.re 0 3 [0, 1, 2, 3, 4] (by kernel_rfl)⟩
    · skip
      refine r_val rfl rfl (fun w hI => x_field (off := 0) (by kernel_rfl) rfl) ?_
      refine r_val rfl rfl (fun w hI => x_load (by kernel_rfl) rfl (by first | exact hI.cellsAt (i := 4) rfl rfl | exact hI.cellsAt (i := 1) rfl rfl)) ?_
      refine r_val rfl rfl (fun w hI => x_move (by conv => lhs; whnf)) ?_
      refine r_val rfl rfl (fun w hI => x_nilCheck rfl) ?_
      refine r_val rfl rfl (fun w hI => x_field (off := 0) (by kernel_rfl) rfl) ?_
      refine r_val rfl rfl (fun w hI => x_load (by kernel_rfl) rfl (by first | exact hI.cellsAt (i := 4) rfl rfl | exact hI.cellsAt (i := 1) rfl rfl)) ?_
      refine r_one rfl ?_
      refine s_call rfl (by kernel_rfl) (Sectors_calls (H.hd (i := 0) rfl)) rfl rfl ?_
      rintro _ _ ⟨rfl, e_⟩; replace H := H.heapEq e_; clear e_
      refine s_end ?_
      refine ⟨H, ?_⟩
      refine r_val rfl rfl (fun w hI => x_geq rfl rfl) ?_
      refine r_val rfl rfl (fun w hI => x_pick_false rfl (by conv => lhs; whnf)) ?_
      refine r_dec rfl rfl (fun w hI => x_move rfl) (fun h3 => ?_) (fun h3 => ?_)
      · skip
        refine r_out rfl rfl ?_
        refine r_out rfl rfl ?_
        refine r_out rfl rfl ?_
        refine r_out rfl rfl ?_
        refine r_val rfl rfl (fun w hI => x_pick_true rfl (by conv => lhs; whnf)) ?_
        refine r_val rfl rfl (fun w hI => x_move (by conv => lhs; whnf)) ?_
        refine r_out rfl rfl ?_
        refine r_out rfl rfl ?_
        refine r_out rfl rfl ?_
        refine r_out rfl rfl ?_
        refine r_out rfl rfl ?_
        refine r_out rfl rfl ?_
        refine r_out rfl rfl ?_
        refine r_out rfl rfl ?_
        refine r_out rfl rfl ?_
        refine r_out rfl rfl ?_
        refine r_out rfl rfl ?_
        refine r_out rfl rfl ?_
        refine r_out rfl rfl ?_
        refine r_val rfl rfl (fun w hI => x_pick_true rfl (by conv => lhs; whnf)) ?_
        refine r_done ?_
        refine WP_cond_true rfl ?_
        refine WP_r rfl ?_
        refine s_val rfl (x_assign (by conv => lhs; whnf)) ?_
        refine s_end ?_
        refine WP_ret ?_
        refine blockQ_r ?_
        refine thenQ_r ?_
        refine loopQ_r ?_
        refine blockQ_r ?_
        refine thenQ_r ?_
        refine retQ_1 rfl (by conv => lhs; whnf) ?_
        have hbad : psBad x (at_ + most + 1) (bkP l) := by
          first
            | exact .inl ⟨(b.at_, b.bs), List.mem_map.2 ⟨b, hbm, rfl⟩, .inl (show b.at_ < at_ + most + 1 by omega)⟩
            | exact .inl ⟨(b.at_, b.bs), List.mem_map.2 ⟨b, hbm, rfl⟩, .inr (.inl (show (x.vals.length : Int) ≤ b.at_ by omega))⟩
            | exact .inl ⟨(b.at_, b.bs), List.mem_map.2 ⟨b, hbm, rfl⟩, .inr (.inr (show b.bs.length ≠ 256 by rw [hbl b hbm]; omega))⟩
            | exact dup_bad hperm (by omega) hc hb (by assumption)
        rw [commitP_bad hbad]
        exact ⟨rfl, H.re 0 3 [0, 1, 2, 3, 4] (by kernel_rfl)⟩
      · skip
        refine r_val rfl rfl (fun w hI => x_field (off := 1) (by kernel_rfl) rfl) ?_
        refine r_val rfl rfl (fun w hI => x_load (by kernel_rfl) rfl (by first | exact hI.cellsAt (i := 4) rfl rfl | exact hI.cellsAt (i := 1) rfl rfl)) ?_
        refine r_val rfl rfl (fun w hI => x_lenS (by kernel_rfl) rfl) ?_
        refine r_val rfl rfl (fun w hI => x_neq rfl rfl) ?_
        refine r_val rfl rfl (fun w hI => x_pick_false rfl (by conv => lhs; whnf)) ?_
        refine r_dec rfl rfl (fun w hI => x_move rfl) (fun h4 => ?_) (fun h4 => ?_)
        · skip
          refine r_out rfl rfl ?_
          refine r_out rfl rfl ?_
          refine r_out rfl rfl ?_
          refine r_out rfl rfl ?_
          refine r_out rfl rfl ?_
          refine r_out rfl rfl ?_
          refine r_out rfl rfl ?_
          refine r_out rfl rfl ?_
          refine r_out rfl rfl ?_
          refine r_out rfl rfl ?_
          refine r_out rfl rfl ?_
          refine r_out rfl rfl ?_
          refine r_out rfl rfl ?_
          refine r_val rfl rfl (fun w hI => x_pick_true rfl (by conv => lhs; whnf)) ?_
          refine r_done ?_
          refine WP_cond_true rfl ?_
          refine WP_r rfl ?_
          refine s_val rfl (x_assign (by conv => lhs; whnf)) ?_
          refine s_end ?_
          refine WP_ret ?_
          refine blockQ_r ?_
          refine thenQ_r ?_
          refine loopQ_r ?_
          refine blockQ_r ?_
          refine thenQ_r ?_
          refine retQ_1 rfl (by conv => lhs; whnf) ?_
          have hbad : psBad x (at_ + most + 1) (bkP l) := by
            first
              | exact .inl ⟨(b.at_, b.bs), List.mem_map.2 ⟨b, hbm, rfl⟩, .inl (show b.at_ < at_ + most + 1 by omega)⟩
              | exact .inl ⟨(b.at_, b.bs), List.mem_map.2 ⟨b, hbm, rfl⟩, .inr (.inl (show (x.vals.length : Int) ≤ b.at_ by omega))⟩
              | exact .inl ⟨(b.at_, b.bs), List.mem_map.2 ⟨b, hbm, rfl⟩, .inr (.inr (show b.bs.length ≠ 256 by rw [hbl b hbm]; omega))⟩
              | exact dup_bad hperm (by omega) hc hb (by assumption)
          rw [commitP_bad hbad]
          exact ⟨rfl, H.re 0 3 [0, 1, 2, 3, 4] (by kernel_rfl)⟩
        · skip
          refine r_val rfl rfl (fun w hI => x_move (by conv => lhs; whnf)) ?_
          refine r_val rfl rfl (fun w hI => x_gtr rfl rfl) ?_
          refine r_dec rfl rfl (fun w hI => x_move rfl) (fun h5 => ?_) (fun h5 => ?_)
          · obtain ⟨c, hc⟩ : ∃ c, l'[k - 1]? = some c := ⟨_, List.getElem?_eq_getElem (by omega)⟩
            have hel : ∀ j, j = (k - 1) * 2 + 0 → (bkCells l')[j]? = some (.int .i64 c.at_) := fun j hj => by subst hj; rw [bkCells_get l' (k - 1) c 0 hc (by decide)]; rfl
            refine r_val rfl rfl (fun w hI => x_move (by conv => lhs; whnf)) ?_
            refine r_val rfl rfl (fun w hI => x_move (by conv => lhs; whnf)) ?_
            refine r_val rfl rfl (fun w hI => x_subi rfl rfl (by omega)) ?_
            refine r_val rfl rfl (fun w hI => x_index (show SlT Tryd.prog 35 48 2 32 from ⟨by kernel_rfl, by kernel_rfl⟩) rfl rfl (by omega) (by omega) (hI.rd (i := 3) rfl)) ?_
            refine r_val rfl rfl (fun w hI => x_fieldR (off := 0) (by kernel_rfl) rfl (hI.rd (i := 3) rfl) (by omega)) ?_
            refine r_val rfl rfl (fun w hI => x_loadR (by kernel_rfl) rfl (hI.rd (i := 3) rfl) (hel _ (by omega))) ?_
            refine r_val rfl rfl (fun w hI => x_field (off := 0) (by kernel_rfl) rfl) ?_
            refine r_val rfl rfl (fun w hI => x_load (by kernel_rfl) rfl (by first | exact hI.cellsAt (i := 4) rfl rfl | exact hI.cellsAt (i := 1) rfl rfl)) ?_
            refine r_val rfl rfl (fun w hI => x_eql rfl rfl) ?_
            refine r_val rfl rfl (fun w hI => x_pick_true rfl (by conv => lhs; whnf)) ?_
            refine r_val rfl rfl (fun w hI => x_pick_false rfl (by conv => lhs; whnf)) ?_
            refine r_done ?_
            refine WP_cond_dec rfl (fun h6 => ?_) (fun h6 => ?_)
            · skip
              refine WP_r rfl ?_
              refine s_val rfl (x_assign (by conv => lhs; whnf)) ?_
              refine s_end ?_
              refine WP_ret ?_
              refine blockQ_r ?_
              refine thenQ_r ?_
              refine loopQ_r ?_
              refine blockQ_r ?_
              refine thenQ_r ?_
              refine retQ_1 rfl (by conv => lhs; whnf) ?_
              have hbad : psBad x (at_ + most + 1) (bkP l) := by
                first
                  | exact .inl ⟨(b.at_, b.bs), List.mem_map.2 ⟨b, hbm, rfl⟩, .inl (show b.at_ < at_ + most + 1 by omega)⟩
                  | exact .inl ⟨(b.at_, b.bs), List.mem_map.2 ⟨b, hbm, rfl⟩, .inr (.inl (show (x.vals.length : Int) ≤ b.at_ by omega))⟩
                  | exact .inl ⟨(b.at_, b.bs), List.mem_map.2 ⟨b, hbm, rfl⟩, .inr (.inr (show b.bs.length ≠ 256 by rw [hbl b hbm]; omega))⟩
                  | exact dup_bad hperm (by omega) hc hb (by assumption)
              rw [commitP_bad hbad]
              exact ⟨rfl, H.re 0 3 [0, 1, 2, 3, 4] (by kernel_rfl)⟩
            · skip
              refine WP_skip ?_
              refine blockQ_n ?_
              refine thenQ_n ?_
              refine WP_region rfl ?_
              refine s_val rfl (x_addi rfl rfl (by omega)) ?_
              refine s_val rfl (x_move (by conv => lhs; whnf)) ?_
              refine s_end ?_
              refine loopQ_A (k + 1) (by omega) ⟨rfl, rfl, rfl, rfl, rfl, trivial⟩ ⟨by omega, good_step hgood hb (by omega), adj_step hadj hb (fun c' hk' hc' => ?_), H.re 0 4 [0, 1, 2, 3, 4] (by kernel_rfl)⟩
              first
                | omega
                | (rw [hc] at hc'; injection hc' with hc'; subst hc'; assumption)
          · skip
            refine r_out rfl rfl ?_
            refine r_out rfl rfl ?_
            refine r_out rfl rfl ?_
            refine r_out rfl rfl ?_
            refine r_out rfl rfl ?_
            refine r_out rfl rfl ?_
            refine r_out rfl rfl ?_
            refine r_out rfl rfl ?_
            refine r_out rfl rfl ?_
            refine r_val rfl rfl (fun w hI => x_pick_false rfl (by conv => lhs; whnf)) ?_
            refine r_val rfl rfl (fun w hI => x_pick_false rfl (by conv => lhs; whnf)) ?_
            refine r_done ?_
            refine WP_cond_false rfl ?_
            refine WP_skip ?_
            refine blockQ_n ?_
            refine thenQ_n ?_
            refine WP_region rfl ?_
            refine s_val rfl (x_addi rfl rfl (by omega)) ?_
            refine s_val rfl (x_move (by conv => lhs; whnf)) ?_
            refine s_end ?_
            refine loopQ_A (k + 1) (by omega) ⟨rfl, rfl, rfl, rfl, rfl, trivial⟩ ⟨by omega, good_step hgood hb (by omega), adj_step hadj hb (fun c' hk' hc' => ?_), H.re 0 4 [0, 1, 2, 3, 4] (by kernel_rfl)⟩
            first
              | omega
              | (rw [hc] at hc'; injection hc' with hc'; subst hc'; assumption)
  · skip
    refine WP_exit ?_
    refine thenQ_e ?_
    refine loopQ_e ?_
    refine blockQ_hit ?_
    have hke : k = n := by omega
    subst hke
    have hst2 := strict_of hsrt (fun j b c hj => hadj j b c (by omega))
    have hall : ∀ b ∈ l', at_ + most + 1 ≤ b.at_ ∧ b.at_ < x.vals.length ∧ b.n = 256 := fun b hb => by
      obtain ⟨j, hj⟩ := List.mem_iff_getElem?.1 hb
      exact hgood j b (by have := (List.getElem?_eq_some_iff.1 hj).1; omega) hj
    have hnd : ((bkP l).map (·.1)).Nodup := by
      have : ((bkP l').map (·.1)).Nodup := by
        rw [List.nodup_iff_pairwise_ne]
        unfold bkP
        rw [List.map_map, List.pairwise_map]
        exact hst2.imp fun h => by show _ ≠ _; exact fun e => by simp only [Function.comp] at e; omega
      exact ((hperm.map fun b => (b.at_, b.bs)).map (·.1)).nodup_iff.1 this
    have hnb : ¬ psBad x (at_ + most + 1) (bkP l) := by
      rintro (⟨p, hp, hb⟩ | h)
      · obtain ⟨b, hbm, rfl⟩ := List.mem_map.1 hp
        obtain ⟨g1, g2, g3⟩ := hall b ((hmem b).2 hbm)
        have g4 := hbl b hbm
        dsimp only at hb
        omega
      · exact h hnd
    have hpe : bkP l' = psSort (bkP l) := psSort_eq (hperm.map _) (by unfold bkP; rw [List.pairwise_map]; exact hst2.imp fun h => by show _ ≤ _; dsimp only; omega) hnd
    have hpl : (bkP l).length = k := by rw [bkP_len, hl]
    have hok : ∀ b ∈ l', BkOk b := fun b hb => by
      obtain ⟨g1, g2, g3⟩ := hall b hb
      exact ⟨g3, by rw [hbl b ((hmem b).1 hb), g3], by omega, by omega⟩
    refine thenQ_n ?_
    refine WP_seq ?_
    refine WP_block ?_
    refine WP_r rfl ?_
    refine s_val rfl (x_move (by conv => lhs; whnf)) ?_
    refine s_val rfl (x_lenS (by kernel_rfl) rfl) ?_
    refine s_val rfl (x_move (by conv => lhs; whnf)) ?_
    refine s_val rfl (x_nilCheck rfl) ?_
    refine s_val rfl (x_field (off := 2) (by kernel_rfl) rfl) ?_
    refine s_val rfl (x_load (by kernel_rfl) rfl (by first | exact H.cellsAt (i := 4) rfl rfl | exact H.cellsAt (i := 1) rfl rfl)) ?_
    refine s_val rfl (x_gtr rfl rfl) ?_
    refine s_val rfl (x_assign (by conv => lhs; whnf)) ?_
    refine s_end ?_
    refine WP_cond_dec rfl (fun h7 => ?_) (fun h7 => ?_)
    · skip
      refine WP_r rfl ?_
      refine s_val rfl (x_assign (by conv => lhs; whnf)) ?_
      refine s_end ?_
      refine WP_ret ?_
      refine blockQ_r ?_
      refine thenQ_r ?_
      refine retQ_1 rfl (by conv => lhs; whnf) ?_
      unfold commitP
      rw [if_neg hnb, if_pos (by rw [hpl]; omega)]
      exact ⟨rfl, H.re 0 3 [0, 1, 2, 3] (by kernel_rfl)⟩
    · skip
      refine WP_r rfl ?_
      refine s_val rfl (x_move (by conv => lhs; whnf)) ?_
      refine s_val rfl (x_lenS (by kernel_rfl) rfl) ?_
      refine s_val rfl (x_eql rfl rfl) ?_
      refine s_val rfl (x_assign (by conv => lhs; whnf)) ?_
      refine s_end ?_
      refine WP_cond_dec rfl (fun h8 => ?_) (fun h8 => ?_)
      · skip
        refine WP_r rfl ?_
        refine s_val rfl (x_assign (by conv => lhs; whnf)) ?_
        refine s_end ?_
        refine WP_ret ?_
        refine blockQ_r ?_
        refine thenQ_r ?_
        refine retQ_1 rfl (by conv => lhs; whnf) ?_
        unfold commitP
        rw [if_neg hnb, if_neg (by rw [hpl]; omega), if_pos (List.length_eq_zero_iff.1 (by omega))]
        exact ⟨rfl, H.re 0 3 [0, 1, 2, 3] (by kernel_rfl)⟩
      · skip
        refine WP_r rfl ?_
        refine s_val rfl (x_move (by conv => lhs; whnf)) ?_
        refine s_val rfl (x_nilCheck rfl) ?_
        refine s_val rfl (x_field (off := 4) (by kernel_rfl) rfl) ?_
        refine s_val rfl (x_load (by kernel_rfl) rfl (by first | exact H.cellsAt (i := 4) rfl rfl | exact H.cellsAt (i := 1) rfl rfl)) ?_
        refine s_val rfl (x_assign (by conv => lhs; whnf)) ?_
        refine s_end ?_
        refine WP_cond rfl (fun h9 => ?_) (fun h9 => ?_)
        · skip
          refine WP_r rfl ?_
          refine s_val rfl (x_assign (by conv => lhs; whnf)) ?_
          refine s_end ?_
          refine WP_ret ?_
          refine blockQ_r ?_
          refine thenQ_r ?_
          refine retQ_1 rfl (by conv => lhs; whnf) ?_
          unfold commitP
          rw [if_neg hnb, if_neg (by rw [hpl]; omega), if_neg (fun q => by rw [q] at hpl; simp at hpl; omega), if_pos (by assumption)]
          exact ⟨rfl, H.re 0 3 [0, 1, 2, 3] (by kernel_rfl)⟩
        · skip
          refine WP_skip ?_
          refine blockQ_n ?_
          refine thenQ_n ?_
          refine WP_r rfl ?_
          refine s_val rfl (x_move (by conv => lhs; whnf)) ?_
          refine s_val rfl (x_move (by conv => lhs; whnf)) ?_
          refine s_call rfl (by kernel_rfl) (steps_calls (C := F) (H.wal (i := 1) rfl) (hh.ext H.ext) ht (by omega) (H.rd (i := 3) rfl) hl' (by omega) hok (fun b hb => (hF w0 _ (H.only (i := 2) rfl)).2 b ((hmem b).1 hb)) (fun w0 w' H' b hb => (hF w0 w' H').2 b ((hmem b).1 hb))) rfl rfl ?_
          rintro _ _ ⟨a8, n8, c8, E, sts, rfl, rfl, hst, hstp, H8⟩
          replace H := H.more H8
          clear H8
          simp only [List.cons_append, List.nil_append] at H
          have hsl : sts.length = 2 * k + 7 := by rw [← List.length_map (f := St.st), hst, stepsS_eq, stepsP_len, bkP_len, hl']
          have H1 : Sat w0 _ ([DK d x, WALb v d at_ most t off, stars (sts.map St.own), slo 95 1 a8 (2 * k + 7) c8 (sts.map St.f), slo 48 2 a2 k c2 (bkCells l')] ++ [F, E]) := H.re 0 7 [0, 1, 5, 6, 3, 2, 4] (by kernel_rfl)
          have H2 := H1.tail.re 0 6 [0, 1, 5, 2, 3, 4] (by kernel_rfl)
          clear H H1
          refine s_call rfl (by kernel_rfl) (run_calls (y := (x, (t : Int))) (X := fun t => WALb v d at_ most t off) hstp hB1 hB (by omega) H2) rfl rfl ?_
          clear H2
          rintro _ _ ⟨rfl, H⟩
          rw [hst, stepsS_eq, hpe] at H ⊢
          have hcm : commitP x t at_ most off (bkP l) = ⟨(runSt (stepsP at_ t (psSort (bkP l))) (x, t)).1, (runSt (stepsP at_ t (psSort (bkP l))) (x, t)).2.1, (runSt (stepsP at_ t (psSort (bkP l))) (x, t)).2.2, decide (¬ (runSt (stepsP at_ t (psSort (bkP l))) (x, t)).1 = 0)⟩ := by
            unfold commitP
            rw [if_neg hnb, if_neg (by rw [hpl]; omega), if_neg (fun q => by rw [q] at hpl; simp at hpl; omega), if_neg (by rw [(by assumption : off = false)]; decide)]
          rw [hcm]
          generalize runSt (stepsP at_ t (psSort (bkP l))) (x, t) = R at H ⊢
          refine s_val rfl (x_assign (by conv => lhs; whnf)) ?_
          refine s_end ?_
          refine WP_r rfl ?_
          refine s_val rfl (x_move (by conv => lhs; whnf)) ?_
          refine s_val rfl (x_move (by conv => lhs; whnf)) ?_
          refine s_val rfl (x_neq rfl rfl) ?_
          refine s_val rfl (x_nilCheck rfl) ?_
          refine s_val rfl (x_field (off := 4) (by kernel_rfl) rfl) ?_
          refine s_store rfl (by kernel_rfl) rfl (by conv => lhs; whnf) rfl H (i := 1) rfl rfl ?_
          clear H; intro _ H
          simp only [List.set_cons_zero, List.set_cons_succ, List.setIfInBounds_toArray] at H
          refine s_end ?_
          refine WP_r rfl ?_
          refine s_val rfl (x_move (by conv => lhs; whnf)) ?_
          refine s_val rfl (x_assign (by conv => lhs; whnf)) ?_
          refine s_end ?_
          refine WP_ret ?_
          refine retQ_1 rfl (by conv => lhs; whnf) ?_
          have H3 : Sat w0 _ ([DK d R.2.1, WALb v d at_ most R.2.2 (decide (¬ R.1 = 0)), stars (sts.map St.own), slo 95 1 a8 (2 * k + 7) c8 (sts.map St.f), slo 48 2 a2 k c2 (bkCells l')] ++ [stars [F, E]]) := H.re 0 6 [0, 1, 3, 4, 5, 2] (by kernel_rfl)
          exact ⟨rfl, H3.untail.re 0 3 [0, 1, 5, 2, 3, 4, 6] (by kernel_rfl)⟩
end Go.Sl
