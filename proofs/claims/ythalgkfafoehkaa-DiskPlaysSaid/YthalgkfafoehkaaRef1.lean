/- The document's own disk (sutlerref01): what of it lies in memory; its small functions. -/
import Derived.Test.YthalgkfafoehkaaDisk17
namespace Go.Sl
open Go.Proofs

/-- A sector's values as a row of slices. -/
structure Rw where
  a : Option Addr
  cap : Nat
  es : List Fe
def Fe.sl (e : Fe) : Value := .slice e.a 256 e.cap
def Rw.val (r : Rw) : Value := .slice r.a r.es.length r.cap
def Rw.own (r : Rw) : HP := slo 37 1 r.a r.es.length r.cap (r.es.map Fe.sl)
def rlist (y : Nat) (x : D) (va : Option Addr) (vc : Nat) (rows : List Rw) (pool : List Fe) : List HP :=
  [blk y (.cells #[.slice va x.vals.length vc, .int .i64 x.left, .bool x.off, .int .i64 x.taken] 61 (0, 0)), slo 72 1 va x.vals.length vc (rows.map Rw.val), stars (rows.map Rw.own), stars (pool.map Fe.own)]
def REF (y : Nat) (x : D) : HP := fun h => ∃ va vc rows pool, x.Ok ∧ rows.map (fun r => r.es.map Fe.bs) = x.vals ∧ (∀ r ∈ rows, ∀ e ∈ r.es, e ∈ pool) ∧ stars (rlist y x va vc rows pool) h
theorem REF.openL {w0 w : World} {y : Nat} {x : D} {L : List HP} (H : Sat w0 w (REF y x :: L)) : ∃ va vc rows pool, x.Ok ∧ rows.map (fun r => r.es.map Fe.bs) = x.vals ∧ (∀ r ∈ rows, ∀ e ∈ r.es, e ∈ pool) ∧ Sat w0 w (rlist y x va vc rows pool ++ L) := by
  obtain ⟨hE, h1, h2, dd, s1, s2, ⟨va, vc, rows, pool, q1, q2, q3, q4⟩, hq⟩ := H
  exact ⟨va, vc, rows, pool, q1, q2, q3, hE, stars_join _ _ ⟨h1, h2, dd, s1, s2, q4, hq⟩⟩
theorem REF.closeL {w0 w : World} {y : Nat} {x : D} {L : List HP} {va : Option Addr} {vc : Nat} {rows : List Rw} {pool : List Fe} (h1 : x.Ok) (h2 : rows.map (fun r => r.es.map Fe.bs) = x.vals) (h3 : ∀ r ∈ rows, ∀ e ∈ r.es, e ∈ pool)
    (H : Sat w0 w (rlist y x va vc rows pool ++ L)) : Sat w0 w (REF y x :: L) := by
  obtain ⟨hE, h⟩ := H
  exact ⟨hE, star_imp (stars_part _ _ h) (fun g hg => ⟨va, vc, rows, pool, h1, h2, h3, hg⟩) fun _ x => x⟩
theorem Rw_oneCell (rows : List Rw) : ∀ u ∈ rows.map Rw.val, u.oneCell' = true := fun u hu => by obtain ⟨r, _, rfl⟩ := List.mem_map.1 hu; rfl
theorem Fe_oneCell (es : List Fe) : ∀ u ∈ es.map Fe.sl, u.oneCell' = true := fun u hu => by obtain ⟨r, _, rfl⟩ := List.mem_map.1 hu; rfl
/-- A row of the list, read. -/
theorem Sat.rdRow {w0 w : World} {L : List HP} {i : Nat} {rows : List Rw} (H : Sat w0 w L) (hi : L[i]? = some (stars (rows.map Rw.own))) {r : Rw} (hr : r ∈ rows) : Rd w r.a r.es.length r.cap 1 (r.es.map Fe.sl) := by
  obtain ⟨_, h1, h2, d, s1, s2, hp, _⟩ := H.pick hi
  obtain ⟨g2, sg2, hg2⟩ := stars_mem (p := r.own) (List.mem_map.2 ⟨r, hr, rfl⟩) hp
  exact slo_rd ((sg2.trans s1).trans (hpOf_sub _ _)) hg2
/-- One assertion within stars is given up for a new one. -/
theorem Sat.swapIn {w0 w : World} {L M : List HP} {i k : Nat} {p q : HP} (H : Sat w0 w (L ++ [q])) (hi : L[i]? = some (stars M)) (hk : M[k]? = some p) : Sat w0 w (L.set i (stars (M.set k q))) := by
  have h1 : (L ++ [q]).Perm (stars M :: (q :: L.eraseIdx i)) := (((perm_pick hi).append_right [q])).trans (by
    rw [List.cons_append]
    exact (List.perm_append_comm (l₁ := L.eraseIdx i) (l₂ := [q])).cons _)
  have h2 : Sat w0 w (M ++ (q :: L.eraseIdx i)) := (H.perm h1).join
  have h3 : (M ++ (q :: L.eraseIdx i)).Perm (p :: (M.eraseIdx k ++ (q :: L.eraseIdx i))) := (perm_pick hk).append_right _
  have h4 : Sat w0 w (M.eraseIdx k ++ (q :: L.eraseIdx i)) := (h2.perm h3).drop 0
  have h5 : (M.eraseIdx k ++ (q :: L.eraseIdx i)).Perm (M.set k q ++ L.eraseIdx i) := by
    have e1 : (M.eraseIdx k ++ (q :: L.eraseIdx i)).Perm (q :: (M.eraseIdx k ++ L.eraseIdx i)) := List.perm_middle
    exact e1.trans ((perm_set (lt_of_pick hk) q).append_right (L.eraseIdx i) : (q :: M.eraseIdx k ++ L.eraseIdx i).Perm _)
  exact (h4.perm h5).part.perm (perm_set (lt_of_pick hi) _)
theorem rsector_calls {w : World} {a : Option Addr} {n cap : Nat} {bs : List UInt8} (HR : Rd w a n cap 1 (bys bs)) (hn : n ≤ 140737488355328) :
    Calls Try.prog 47 #[.slice a n cap] w (Ret fun v w' => ∃ a' cap', v = .slice a' n cap' ∧ Sat w w' [slo 5 1 a' n cap' (bys bs)]) := by
  refine calls_of Try.func47 rfl rfl ?_
  refine WP_r rfl ?_
  refine s_val rfl (x_assign (by conv => lhs; whnf)) ?_
  refine s_end ?_
  refine WP_r rfl ?_
  refine s_buildSlice (vs := []) rfl (show SlT Try.prog 37 5 1 1 from ⟨by kernel_rfl, by kernel_rfl⟩) zByte rfl rfl (by simp) (by decide) (Sat.nil (Ext.refl w)) ?_
  intro b w1 H
  simp only [List.nil_append, List.flatMap_nil] at H
  refine s_val rfl (x_move (by conv => lhs; whnf)) ?_
  refine s_append rfl (show SlT Try.prog 37 5 1 1 from ⟨by kernel_rfl, by kernel_rfl⟩) zByte ⟨_, (show SlT Try.prog 37 5 1 1 from ⟨by kernel_rfl, by kernel_rfl⟩).und⟩ rfl rfl H (i := 0) rfl (HR.ext H.ext) (bys_oneCell _) (by omega) (by omega) ?_
  intro a' cap' w2 H2
  simp only [List.set_cons_zero, List.nil_append, Nat.zero_add] at H2
  rw [Nat.zero_add]
  refine s_val rfl (x_assign (by conv => lhs; whnf)) ?_
  refine s_end ?_
  refine WP_ret ?_
  refine retQ_1 rfl (by conv => lhs; whnf) ?_
  exact ⟨a', cap', rfl, H2⟩
theorem rLimit_calls {w0 w : World} {y : Nat} {x : D} {L : List HP} (H : Sat w0 w (REF y x :: L)) (n : Int) (hn : n ≤ 9223372036854775807) :
    Calls Try.prog 30 #[dp y, .int .i64 n] w (Ret fun v w' => v = .tuple #[] ∧ Sat w0 w' (REF y (x.limit n) :: L)) := by
  obtain ⟨va, vc, rows, pool, hok, hv, hp, H⟩ := REF.openL H
  simp only [rlist, List.cons_append, List.nil_append] at H
  refine calls_of Try.func30 rfl rfl ?_
  refine WP_region rfl ?_
  refine s_val rfl (x_move (by conv => lhs; whnf)) ?_
  refine s_val rfl (x_move (by conv => lhs; whnf)) ?_
  refine s_val rfl (x_max2 rfl rfl) ?_
  refine s_val rfl (x_nilCheck rfl) ?_
  refine s_val rfl (x_field (off := 1) (by kernel_rfl) rfl) ?_
  refine s_store rfl (by kernel_rfl) rfl (by conv => lhs; whnf) rfl H (i := 0) rfl rfl ?_
  clear H; intro _ H
  simp only [List.set_cons_zero, List.set_cons_succ, List.setIfInBounds_toArray] at H
  refine s_end ?_
  refine retQ_0n rfl ?_
  refine ⟨rfl, ?_⟩
  rw [show (max (-1) n : Int) = (x.limit n).left from rfl] at H
  exact REF.closeL (x := x.limit n) ⟨hok.1, hok.2, hok.3, hok.4, by show -1 ≤ max (-1) n ∧ max (-1) n ≤ 9223372036854775807; omega, hok.6⟩ hv hp H
theorem rtake_calls {w0 w : World} {y : Nat} {x : D} {L : List HP} (H : Sat w0 w (REF y x :: L)) :
    Calls Try.prog 48 #[dp y] w (Ret fun v w' => v = .bool x.take.1 ∧ Sat w0 w' (REF y x.take.2 :: L)) := by
  obtain ⟨va, vc, rows, pool, hok, hv, hp, H⟩ := REF.openL H
  simp only [rlist, List.cons_append, List.nil_append] at H
  have hl := hok.left
  refine calls_of Try.func48 rfl rfl ?_
  refine WP_r rfl ?_
  refine s_val rfl (x_assign (by conv => lhs; whnf)) ?_
  refine s_end ?_
  refine WP_seq ?_
  refine WP_r rfl ?_
  refine s_val rfl (x_move (by conv => lhs; whnf)) ?_
  refine s_val rfl (x_nilCheck rfl) ?_
  refine s_val rfl (x_field (off := 2) (by kernel_rfl) rfl) ?_
  refine s_val rfl (x_load (by kernel_rfl) rfl (by first | assumption | exact H.cell (i := 0) rfl rfl | exact H.cell (i := 1) rfl rfl | exact H.cell (i := 2) rfl rfl | exact H.cell (i := 3) rfl rfl | exact H.cell (i := 4) rfl rfl | exact H.cell (i := 5) rfl rfl)) ?_
  refine s_bool rfl (x_move rfl) (fun h1 => ?_) (fun h1 => ?_)
  · skip
    refine s_out rfl ?_
    refine s_out rfl ?_
    refine s_out rfl ?_
    refine s_out rfl ?_
    refine s_out rfl ?_
    refine s_val rfl (x_pick_true rfl (by conv => lhs; whnf)) ?_
    refine s_end ?_
    refine WP_cond_true rfl ?_
    refine WP_r rfl ?_
    refine s_val rfl (x_move (by conv => lhs; whnf)) ?_
    refine s_val rfl (x_nilCheck rfl) ?_
    refine s_val rfl (x_field (off := 2) (by kernel_rfl) rfl) ?_
    refine s_store rfl (by kernel_rfl) rfl (by conv => lhs; whnf) rfl H (i := 0) rfl rfl ?_
    clear H; intro _ H
    simp only [List.set_cons_zero, List.set_cons_succ, List.setIfInBounds_toArray] at H
    refine s_end ?_
    refine WP_r rfl ?_
    refine s_val rfl (x_assign (by conv => lhs; whnf)) ?_
    refine s_end ?_
    refine WP_ret ?_
    refine thenQ_r ?_
    refine retQ_1 rfl (by conv => lhs; whnf) ?_
    have ht : x.off = true ∨ x.left = 0 := by first | exact .inl h1 | exact .inr h2
    unfold D.take
    rw [if_pos ht]
    exact ⟨rfl, REF.closeL (x := { x with off := true }) ⟨hok.1, hok.2, hok.3, hok.4, hok.5, hok.6⟩ hv hp H⟩
  · skip
    refine s_val rfl (x_move (by conv => lhs; whnf)) ?_
    refine s_val rfl (x_nilCheck rfl) ?_
    refine s_val rfl (x_field (off := 1) (by kernel_rfl) rfl) ?_
    refine s_val rfl (x_load (by kernel_rfl) rfl (by first | assumption | exact H.cell (i := 0) rfl rfl | exact H.cell (i := 1) rfl rfl | exact H.cell (i := 2) rfl rfl | exact H.cell (i := 3) rfl rfl | exact H.cell (i := 4) rfl rfl | exact H.cell (i := 5) rfl rfl)) ?_
    refine s_val rfl (x_eql rfl rfl) ?_
    refine s_val rfl (x_pick_false rfl (by conv => lhs; whnf)) ?_
    refine s_end ?_
    refine WP_cond_dec rfl (fun h2 => ?_) (fun h2 => ?_)
    · skip
      refine WP_r rfl ?_
      refine s_val rfl (x_move (by conv => lhs; whnf)) ?_
      refine s_val rfl (x_nilCheck rfl) ?_
      refine s_val rfl (x_field (off := 2) (by kernel_rfl) rfl) ?_
      refine s_store rfl (by kernel_rfl) rfl (by conv => lhs; whnf) rfl H (i := 0) rfl rfl ?_
      clear H; intro _ H
      simp only [List.set_cons_zero, List.set_cons_succ, List.setIfInBounds_toArray] at H
      refine s_end ?_
      refine WP_r rfl ?_
      refine s_val rfl (x_assign (by conv => lhs; whnf)) ?_
      refine s_end ?_
      refine WP_ret ?_
      refine thenQ_r ?_
      refine retQ_1 rfl (by conv => lhs; whnf) ?_
      have ht : x.off = true ∨ x.left = 0 := by first | exact .inl h1 | exact .inr h2
      unfold D.take
      rw [if_pos ht]
      exact ⟨rfl, REF.closeL (x := { x with off := true }) ⟨hok.1, hok.2, hok.3, hok.4, hok.5, hok.6⟩ hv hp H⟩
    · skip
      refine WP_skip ?_
      refine thenQ_n ?_
      refine WP_meetA (α := Unit) (fun _ => [(0, dp y)]) (fun _ w' => Sat w0 w' (blk y (.cells #[.slice va x.vals.length vc, .int .i64 (max (-1) (x.left - 1)), .bool x.off, .int .i64 x.taken] 61 (0, 0)) :: slo 72 1 va x.vals.length vc (rows.map Rw.val) :: stars (rows.map Rw.own) :: stars (pool.map Fe.own) :: L)) ?_ ?_
      · skip
        refine WP_r rfl ?_
        refine s_val rfl (x_move (by conv => lhs; whnf)) ?_
        refine s_val rfl (x_nilCheck rfl) ?_
        refine s_val rfl (x_field (off := 1) (by kernel_rfl) rfl) ?_
        refine s_val rfl (x_load (by kernel_rfl) rfl (by first | assumption | exact H.cell (i := 0) rfl rfl | exact H.cell (i := 1) rfl rfl | exact H.cell (i := 2) rfl rfl | exact H.cell (i := 3) rfl rfl | exact H.cell (i := 4) rfl rfl | exact H.cell (i := 5) rfl rfl)) ?_
        refine s_val rfl (x_gtr rfl rfl) ?_
        refine s_end ?_
        refine WP_cond_dec rfl (fun h3 => ?_) (fun h3 => ?_)
        · skip
          refine WP_region rfl ?_
          refine s_val rfl (x_move (by conv => lhs; whnf)) ?_
          refine s_val rfl (x_nilCheck rfl) ?_
          refine s_val rfl (x_field (off := 1) (by kernel_rfl) rfl) ?_
          refine s_val rfl (x_load (by kernel_rfl) rfl (by first | assumption | exact H.cell (i := 0) rfl rfl | exact H.cell (i := 1) rfl rfl | exact H.cell (i := 2) rfl rfl | exact H.cell (i := 3) rfl rfl | exact H.cell (i := 4) rfl rfl | exact H.cell (i := 5) rfl rfl)) ?_
          refine s_val rfl (x_subi rfl rfl (by omega)) ?_
          refine s_val rfl (x_nilCheck rfl) ?_
          refine s_val rfl (x_field (off := 1) (by kernel_rfl) rfl) ?_
          refine s_store rfl (by kernel_rfl) rfl (by conv => lhs; whnf) rfl H (i := 0) rfl rfl ?_
          clear H; intro _ H
          simp only [List.set_cons_zero, List.set_cons_succ, List.setIfInBounds_toArray] at H
          refine s_end ?_
          first
            | exact thenQ_meet () ⟨rfl, trivial⟩ (by rw [show max (-1) (x.left - 1) = x.left - 1 by omega]; exact H)
            | exact thenQ_meet () ⟨rfl, trivial⟩ (by rw [show max (-1) (x.left - 1) = x.left by omega]; exact H)
        · skip
          refine WP_skip ?_
          first
            | exact thenQ_meet () ⟨rfl, trivial⟩ (by rw [show max (-1) (x.left - 1) = x.left - 1 by omega]; exact H)
            | exact thenQ_meet () ⟨rfl, trivial⟩ (by rw [show max (-1) (x.left - 1) = x.left by omega]; exact H)
      · skip
        clear H
        intro _ ρ w5 H
        refine WP_r rfl ?_
        refine s_val rfl (x_move (by conv => lhs; whnf)) ?_
        refine s_val rfl (x_nilCheck rfl) ?_
        refine s_val rfl (x_field (off := 3) (by kernel_rfl) rfl) ?_
        refine s_val rfl (x_load (by kernel_rfl) rfl (by first | assumption | exact H.cell (i := 0) rfl rfl | exact H.cell (i := 1) rfl rfl | exact H.cell (i := 2) rfl rfl | exact H.cell (i := 3) rfl rfl | exact H.cell (i := 4) rfl rfl | exact H.cell (i := 5) rfl rfl)) ?_
        refine s_val rfl (x_add rfl rfl) ?_
        refine s_val rfl (x_nilCheck rfl) ?_
        refine s_val rfl (x_field (off := 3) (by kernel_rfl) rfl) ?_
        refine s_store rfl (by kernel_rfl) rfl (by conv => lhs; whnf) rfl H (i := 0) rfl rfl ?_
        clear H; intro _ H
        simp only [List.set_cons_zero, List.set_cons_succ, List.setIfInBounds_toArray] at H
        refine s_end ?_
        refine WP_r rfl ?_
        refine s_val rfl (x_assign (by conv => lhs; whnf)) ?_
        refine s_end ?_
        refine WP_ret ?_
        refine retQ_1 rfl (by conv => lhs; whnf) ?_
        have ht : ¬ (x.off = true ∨ x.left = 0) := by rintro (h | h); exact absurd h (by simpa using h1); exact h2 h
        unfold D.take
        rw [if_neg ht]
        exact ⟨rfl, REF.closeL (x := { x with left := max (-1) (x.left - 1), taken := IntKind.i64.wrap (x.taken + 1) }) ⟨hok.1, hok.2, hok.3, hok.4, by show -1 ≤ max (-1) (x.left - 1) ∧ max (-1) (x.left - 1) ≤ 9223372036854775807; omega, wrap_bounds _⟩ hv hp H⟩
end Go.Sl
