/- DiskLimit, walked. -/
import Derived.Test.YthalgkfafoehkaaDisk15
namespace Go.Sl
open Go.Proofs

theorem x_eql_true {P : Program} {ρ : Fr} {w : World} {ty t yt : TypeId} {x y : Operand} {k : IntKind} {a : Int} (hx : ev ρ x = .int k a) (hy : ev ρ y = .int k a) : Ev1 P (.binOp .eql t x y yt) ty ρ w (.bool true) w := by
  have h := x_eql (P := P) (ty := ty) (w := w) (t := t) (yt := yt) hx hy
  rwa [decide_eq_true rfl] at h
theorem act_prefix {w : World} {a : Option Addr} {n cap m : Nat} {acts : List ActV} (h : Rd w a n cap 5 (actCells acts)) (hm : m ≤ n) : Rd w (cutAt a cap 0 5) m cap 5 (actCells (acts.take m)) := by
  have hs := cutAt_sub (lo := 0) (hi := m) h (by omega) hm
  have h1 := h.sub (k := 0) (n' := m) (cap' := cap) (by simpa using hs) (by omega) (by have := h.2.1; omega)
  have e : ((actCells acts).drop (0 * 5)).take (m * 5) = actCells (acts.take m) := by
    rw [Nat.zero_mul, List.drop_zero]
    have key : ∀ (l : List ActV) (m : Nat), (actCells l).take (m * 5) = actCells (l.take m) := by
      intro l
      induction l with
      | nil => intro m; simp [actCells]
      | cons b l ih =>
        intro m
        cases m with
        | zero => simp [actCells]
        | succ m =>
          have e : actCells (b :: l) = b.cells ++ actCells l := rfl
          have e2 : actCells ((b :: l).take (m + 1)) = b.cells ++ actCells (l.take m) := rfl
          rw [e, e2, show (m + 1) * 5 = b.cells.length + m * 5 by show _ = 5 + m * 5; omega, List.take_length_add_append, ih]
    exact key acts m
  rw [e] at h1
  exact h1
theorem do_at {w0 w : World} {c s : Nat} {v : List (List Sect)} {sh : List Fe} {F : HP} {L : List HP} {i j : Nat} {a : Option Addr} {n cap : Nat} {acts : List ActV} (H : Sat w0 w L) (hi : L[i]? = some (DISK c (plainD v 0) sh)) (hj : (L.eraseIdx i)[j]? = some F) (hsh : RO w0 F sh)
    (HA : ∀ w', Ext w0 w' → Rd w' a n cap 5 (actCells acts)) (hv : v.length = s) (hs : 0 < s) (hsm : SmallV 1000000 v) :
    Calls Try.prog 15 #[dp c, .slice a n cap] w (Ret fun r w' => r = .tuple #[] ∧ Sat w0 w' (L.set i (DISK c (plainD (runV s (acts.take (min 200 n)) v) (min 200 n)) sh))) :=
  Calls.mono (do_calls (hsh.inn hj) HA hv hs hsm (H.focus hi)) (Ret.mono fun v w' ⟨e, H'⟩ => ⟨e, H'.unfocus hi⟩)
theorem image_vals {x y : D} (h : x.vals = y.vals) : x.image = y.image := by unfold D.image; rw [h]
theorem sure_vals {x y : D} (h : x.vals = y.vals) : x.sure = y.sure := by unfold D.sure; rw [h]
def zeroV (s : Nat) : List (List Sect) := List.replicate s [zsect]
theorem zeroV_len (s : Nat) : (zeroV s).length = s := List.length_replicate ..
theorem zeroV_small (s : Nat) : SmallV 1000000 (zeroV s) := fun l hl => by rw [(List.mem_replicate.1 hl).2]; show 1 ≤ _; omega
theorem zeroV_small1 (s : Nat) : SmallV 1 (zeroV s) := fun l hl => by rw [(List.mem_replicate.1 hl).2]; exact Nat.le_refl _
theorem zero_plain (s : Nat) : D.zero s = plainD (zeroV s) 0 := rfl
theorem limit_zero (s : Nat) (acts : List ActV) (n0 : Int) (h : 0 ≤ n0) : (plainD (zeroV s) 0).limit n0 = limD s (zeroV s) acts n0.toNat 0 := by
  unfold D.limit limD plainD
  rw [if_pos (Nat.zero_le _), List.take_zero]
  show D.mk (zeroV s) _ _ _ = D.mk (runV s [] (zeroV s)) _ _ _
  congr 1
  omega
theorem DiskLimit_calls {w : World} {sec n0 at_ : Int} {a : Option Addr} {n cap : Nat} {acts : List ActV} (HA : Rd w a n cap 5 (actCells acts)) (hcap : cap ≤ 9223372036854775807) :
    Calls Try.prog 3 #[.int .i64 sec, .slice a n cap, .int .i64 n0, .int .i64 at_] w (Ret fun v w' => v = .bool true ∧ Ext w w') := by
  have hlen := acts_len HA
  have hsec := among_bounds sec 20 (by omega)
  have hn0 := among_bounds n0 30 (by omega)
  have HAE : ∀ w', Ext w w' → Rd w' a n cap 5 (actCells acts) := fun w' e => HA.ext e
  refine calls_of Try.func3 rfl rfl ?_
  refine WP_r rfl ?_
  refine s_val rfl (x_assign (by conv => lhs; whnf)) ?_
  refine s_end ?_
  refine WP_seq ?_
  refine WP_r rfl ?_
  refine s_call rfl (by kernel_rfl) (works_calls) rfl rfl ?_
  rintro v w1 ⟨rfl, hE⟩
  refine s_val rfl (x_not rfl) ?_
  refine s_end ?_
  refine WP_cond_false rfl ?_
  refine WP_skip ?_
  refine thenQ_n ?_
  refine WP_r rfl ?_
  refine s_val rfl (x_move (by conv => lhs; whnf)) ?_
  refine s_call rfl (by kernel_rfl) (Among_calls sec 20 (by omega) (by omega)) rfl rfl ?_
  rintro v w2 ⟨rfl, rfl⟩
  refine s_val rfl (x_addi rfl rfl (by omega)) ?_
  refine s_call rfl (by kernel_rfl) (New_calls (1 + among sec 20)) rfl rfl ?_
  rintro v w3 ⟨_, hv⟩
  obtain ⟨d, rfl, H⟩ := hv (by omega)
  obtain ⟨s, hs⟩ : ∃ s : Nat, (1 + among sec 20).toNat = s := ⟨_, rfl⟩
  rw [hs, zero_plain] at H
  have hs0 : 0 < s := by omega
  have hs1 : s ≤ 20 := by omega
  clear hs hv
  replace H : Sat w w3 [DISK d (plainD (zeroV s) 0) [], emp, emp] := ((Sat.nil hE).more H).addEmps 2
  refine s_val rfl (x_move (by conv => lhs; whnf)) ?_
  refine s_val rfl (x_extract rfl rfl) ?_
  refine s_val rfl (x_extract rfl rfl) ?_
  refine s_val rfl (x_assign (by conv => lhs; whnf)) ?_
  refine s_val rfl (x_assign (by conv => lhs; whnf)) ?_
  refine s_end ?_
  refine WP_seq ?_
  refine WP_r rfl ?_
  refine s_val rfl (x_move (by conv => lhs; whnf)) ?_
  refine s_val rfl (x_eqlPtrNil (by kernel_rfl) rfl) ?_
  refine s_val rfl (x_move (by conv => lhs; whnf)) ?_
  refine s_val rfl (x_move (by conv => lhs; whnf)) ?_
  refine s_val rfl (x_neq rfl rfl) ?_
  refine s_val rfl (x_pick_false rfl (by conv => lhs; whnf)) ?_
  refine s_end ?_
  refine WP_cond_false rfl ?_
  refine WP_skip ?_
  refine thenQ_n ?_
  refine WP_r rfl ?_
  refine s_val rfl (x_move (by conv => lhs; whnf)) ?_
  refine s_call rfl (by kernel_rfl) (Among_calls n0 30 (by omega) (by omega)) rfl rfl ?_
  rintro v w4 ⟨rfl, rfl⟩
  refine s_val rfl (x_assign (by conv => lhs; whnf)) ?_
  refine s_end ?_
  refine WP_r rfl ?_
  refine s_val rfl (x_move (by conv => lhs; whnf)) ?_
  refine s_call rfl (by kernel_rfl) (Clone_calls (RO.nil _ _) H) rfl rfl ?_
  clear H
  rintro v w5 ⟨c, S, sh, rfl, hsh, H⟩
  refine s_val rfl (x_assign (by conv => lhs; whnf)) ?_
  refine s_end ?_
  refine WP_r rfl ?_
  refine s_val rfl (x_move (by conv => lhs; whnf)) ?_
  refine s_val rfl (x_move (by conv => lhs; whnf)) ?_
  refine s_call rfl (by kernel_rfl) (Limit_at H (i := 0) rfl (j := 2) rfl hsh (among n0 30) (by omega)) rfl rfl ?_
  clear H
  rintro v w6 ⟨_, H⟩
  replace H : Sat w w6 [DISK d ((plainD (zeroV s) 0).limit (among n0 30)) sh, DISK c (plainD (zeroV s) 0) sh, emp, stars [S, emp]] := H
  obtain ⟨nl, hnl⟩ : ∃ nl : Nat, among n0 30 = nl := ⟨(among n0 30).toNat, by omega⟩
  rw [hnl] at H ⊢
  have hnl2 : nl < 30 := by omega
  refine s_end ?_
  refine WP_meetA (α := Option Addr × Nat) (fun p => [(1, .slice p.1 p.2 cap), (2, .int .i64 nl), (3, .int .i64 at_), (9, dp d), (11, dp c)]) (fun p w' => p.2 ≤ 100 ∧ p.2 ≤ n ∧ (∀ w', Ext w w' → Rd w' p.1 p.2 cap 5 (actCells (acts.take p.2))) ∧ Sat w w' [DISK d ((plainD (zeroV s) 0).limit nl) sh, DISK c (plainD (zeroV s) 0) sh, emp, stars [S, emp]]) ?_ ?_
  · skip
    refine WP_r rfl ?_
    refine s_val rfl (x_move (by conv => lhs; whnf)) ?_
    refine s_val rfl (x_lenS (by kernel_rfl) rfl) ?_
    refine s_val rfl (x_gtr rfl rfl) ?_
    refine s_end ?_
    refine WP_cond_dec rfl (fun h1 => ?_) (fun h1 => ?_)
    · skip
      refine WP_region rfl ?_
      refine s_val rfl (x_move (by conv => lhs; whnf)) ?_
      refine s_val rfl (x_sliceHi (show SlT Try.prog 22 33 5 56 from ⟨by kernel_rfl, by kernel_rfl⟩) rfl rfl (by omega) (by omega) HA.2.1) ?_
      refine s_val rfl (x_assign (by conv => lhs; whnf)) ?_
      refine s_end ?_
      first
        | exact thenQ_meet (cutAt a cap 0 5, 100) ⟨rfl, rfl, rfl, rfl, rfl, trivial⟩ ⟨Nat.le_refl _, by show 100 ≤ n; omega, fun w' e => act_prefix (HAE w' e) (by omega), H⟩
        | exact thenQ_meet (a, n) ⟨rfl, rfl, rfl, rfl, rfl, trivial⟩ ⟨by show n ≤ 100; omega, Nat.le_refl _, fun w' e => by rw [List.take_of_length_le (by omega)]; exact HAE w' e, H⟩
    · skip
      refine WP_skip ?_
      first
        | exact thenQ_meet (cutAt a cap 0 5, 100) ⟨rfl, rfl, rfl, rfl, rfl, trivial⟩ ⟨Nat.le_refl _, by show 100 ≤ n; omega, fun w' e => act_prefix (HAE w' e) (by omega), H⟩
        | exact thenQ_meet (a, n) ⟨rfl, rfl, rfl, rfl, rfl, trivial⟩ ⟨by show n ≤ 100; omega, Nat.le_refl _, fun w' e => by rw [List.take_of_length_le (by omega)]; exact HAE w' e, H⟩
  · skip
    clear H
    rintro ⟨a1, m⟩ ρ w7 ⟨hm100, hmn, HA1, H⟩
    simp only at hm100 hmn HA1
    obtain ⟨A1, hA1⟩ : ∃ A1, acts.take m = A1 := ⟨_, rfl⟩
    rw [hA1] at HA1
    have hAl : A1.length = m := acts_len (HA1 w (Ext.refl w))
    rw [limit_zero s A1 nl (by omega), Int.toNat_natCast] at H
    refine WP_seq ?_
    refine WP_r rfl ?_
    refine s_val rfl (x_assign (by conv => lhs; whnf)) ?_
    refine s_end ?_
    refine WP_block ?_
    refine WP_loopA (α := Nat) (fun k => [(1, .slice a1 m cap), (2, .int .i64 nl), (3, .int .i64 at_), (9, dp d), (11, dp c), (12, .int .i64 k)]) (fun k w' => k ≤ m ∧ Sat w w' [DISK d (limD s (zeroV s) A1 nl k) sh, DISK c (plainD (zeroV s) 0) sh, emp, stars [S, emp]]) (fun k => m - k) 0 ⟨rfl, rfl, rfl, rfl, rfl, rfl, trivial⟩ ⟨Nat.zero_le _, H⟩ ?_
    clear H
    intro k ρ w8 ⟨hk, H⟩
    refine WP_seq ?_
    refine WP_r rfl ?_
    refine s_val rfl (x_move (by conv => lhs; whnf)) ?_
    refine s_val rfl (x_move (by conv => lhs; whnf)) ?_
    refine s_val rfl (x_lenS (by kernel_rfl) rfl) ?_
    refine s_val rfl (x_lss rfl rfl) ?_
    refine s_end ?_
    refine WP_cond_dec rfl (fun h2 => ?_) (fun h2 => ?_)
    · skip
      refine WP_skip ?_
      refine thenQ_n ?_
      refine WP_seq ?_
      refine WP_block ?_
      have hkm : k < m := by omega
      obtain ⟨b, hb⟩ : ∃ b, A1[k]? = some b := ⟨_, List.getElem?_eq_getElem (by omega)⟩
      have hel : ∀ i j, i = k → j < 5 → (actCells A1)[i * 5 + j]? = b.cells[j]? := fun i j hi hj => by subst hi; exact actCells_get A1 i b j hb hj
      have HR := HA1 _ H.ext
      have hst := lim_step hs0 (zeroV_len s) (n := nl) (k := k) (by omega) (by omega) hb
      have hVl : (limD s (zeroV s) A1 nl k).vals.length = s := by rw [limD_vals, runV_len, zeroV_len]
      have hsmall : ∀ l ∈ (limD s (zeroV s) A1 nl k).vals, l.length < 4611686018427387904 := fun l hl => by
        rw [limD_vals] at hl
        have := runV_small s (A1.take (min nl k)) 1 _ (Nat.le_refl _) (zeroV_small1 s) l hl
        rw [List.length_take] at this; omega
      refine WP_r rfl ?_
      refine s_val rfl (x_assign (by conv => lhs; whnf)) ?_
      refine s_end ?_
      refine WP_seq ?_
      refine WP_r rfl ?_
      refine s_val rfl (x_move (by conv => lhs; whnf)) ?_
      refine s_val rfl (x_move (by conv => lhs; whnf)) ?_
      refine s_val rfl (x_index (show SlT Try.prog 22 33 5 56 from ⟨by kernel_rfl, by kernel_rfl⟩) rfl rfl (by omega) (by omega) HR) ?_
      refine s_val rfl (x_fieldR (off := 0) (by kernel_rfl) rfl HR (by rw [actCells_len]; omega)) ?_
      refine s_val rfl (x_loadR (by kernel_rfl) rfl HR (hel _ 0 (by omega) (by omega))) ?_
      refine s_call rfl (by kernel_rfl) (Among_calls b.do_ 4 (by omega) (by omega)) rfl rfl ?_
      rintro r w9 ⟨rfl, rfl⟩
      refine s_val rfl (x_eql (a := among b.do_ 4) (b := 3) rfl rfl) ?_
      refine s_end ?_
      refine WP_cond_dec rfl (fun h3 => ?_) (fun h3 => ?_)
      · skip
        refine WP_region rfl ?_
        refine s_val rfl (x_move (by conv => lhs; whnf)) ?_
        refine s_call rfl (by kernel_rfl) (Sync_at H (i := 0) rfl (j := 2) rfl hsh) rfl rfl ?_
        clear H
        rintro r w10 ⟨rfl, H⟩
        have hop : b.op s = none := by unfold ActV.op; rw [if_pos h3]
        rw [hop] at hst
        have hst' : (limD s (zeroV s) A1 nl k).sync = (if k < nl then 0 else 10, limD s (zeroV s) A1 nl (k + 1)) := hst
        rw [hst'] at H ⊢
        replace H : Sat w w10 [DISK d (limD s (zeroV s) A1 nl (k + 1)) sh, DISK c (plainD (zeroV s) 0) sh, emp, stars [S, emp]] := H
        refine s_val rfl (x_assign (by conv => lhs; whnf)) ?_
        refine s_end ?_
        refine thenQ_n ?_
        have hf : ∃ fv : Int, (if k < nl then (0 : Int) else 10) = fv ∧ (fv = 0 ∧ k < nl ∨ fv = 10 ∧ ¬ k < nl) := by
          by_cases h : k < nl
          · exact ⟨0, by rw [if_pos h], .inl ⟨rfl, h⟩⟩
          · exact ⟨10, by rw [if_neg h], .inr ⟨rfl, h⟩⟩
        obtain ⟨fv, hfe, hfv⟩ := hf
        simp only [hfe]
        have hb1 : (!(decide (fv = 0) == decide ((k : Int) < (nl : Int)))) = false := by
          rcases hfv with ⟨h, h'⟩ | ⟨h, h'⟩
          · rw [decide_eq_true h, decide_eq_true (show (k : Int) < nl by omega)]; rfl
          · rw [decide_eq_false (show ¬ fv = 0 by omega), decide_eq_false (show ¬ (k : Int) < nl by omega)]; rfl
        refine WP_r rfl ?_
        refine s_val rfl (x_move (by conv => lhs; whnf)) ?_
        refine s_val rfl (x_eql rfl rfl) ?_
        refine s_val rfl (x_move (by conv => lhs; whnf)) ?_
        refine s_val rfl (x_move (by conv => lhs; whnf)) ?_
        refine s_val rfl (x_lss rfl rfl) ?_
        refine s_val rfl (x_neqBool_of hb1 (by kernel_rfl) rfl rfl) ?_
        refine s_val rfl (x_move (by conv => lhs; whnf)) ?_
        refine s_val rfl (x_move (by conv => lhs; whnf)) ?_
        refine s_val rfl (x_neq (a := fv) (b := 0) rfl rfl) ?_
        refine s_dec rfl (x_move rfl) (fun h4 => ?_) (fun h4 => ?_)
        · skip
          refine s_val rfl (x_move (by conv => lhs; whnf)) ?_
          refine s_val rfl (x_neq (a := fv) (b := 10) rfl rfl) ?_
          refine s_val rfl (x_pick_true rfl (by conv => lhs; whnf)) ?_
          refine s_val rfl (x_pick_false rfl (by conv => lhs; whnf)) ?_
          refine s_end ?_
          refine WP_cond_dec rfl (fun h5 => ?_) (fun h5 => ?_)
          · exact absurd h5 (by omega) --done
          · skip
            refine WP_skip ?_
            refine blockQ_n ?_
            refine thenQ_n ?_
            refine WP_region rfl ?_
            refine s_val rfl (x_move (by conv => lhs; whnf)) ?_
            refine s_val rfl (x_addi rfl rfl (by omega)) ?_
            refine s_val rfl (x_assign (by conv => lhs; whnf)) ?_
            refine s_end ?_
            refine loopQ_A (k + 1) (by omega) ⟨rfl, rfl, rfl, rfl, rfl, rfl, trivial⟩ ⟨by omega, H⟩
        · skip
          refine s_out rfl ?_
          refine s_out rfl ?_
          refine s_val rfl (x_pick_false rfl (by conv => lhs; whnf)) ?_
          refine s_val rfl (x_pick_false rfl (by conv => lhs; whnf)) ?_
          refine s_end ?_
          refine WP_cond_false rfl ?_
          refine WP_skip ?_
          refine blockQ_n ?_
          refine thenQ_n ?_
          refine WP_region rfl ?_
          refine s_val rfl (x_move (by conv => lhs; whnf)) ?_
          refine s_val rfl (x_addi rfl rfl (by omega)) ?_
          refine s_val rfl (x_assign (by conv => lhs; whnf)) ?_
          refine s_end ?_
          refine loopQ_A (k + 1) (by omega) ⟨rfl, rfl, rfl, rfl, rfl, rfl, trivial⟩ ⟨by omega, H⟩
      · skip
        refine WP_draw (fun w' => Ext w w') (.float 0 (.float 1 (.float 2 (.float 3 (.float 4 (.float 5 (.float 6 (.float 9 (.float 10 (.float 11 (.float 12 (.float 13 (.fork [(7, .fork [(8, .fork [(14, .fork [(15, .float 16 .done)])])])]))))))))))))) (by kernel_rfl) (by kernel_rfl) H.ext ?_
        replace H := H.heapEq (w' := { w9 with drawn := w9.drawn + 1 }) rfl
        have hop : b.op s = some ((among b.at_ s).toNat, b.fill) := by unfold ActV.op; rw [if_neg h3]
        rw [hop] at hst
        have hat := among_bounds b.at_ s (by omega)
        refine r_val rfl rfl (fun w hI => x_move (by conv => lhs; whnf)) ?_
        refine r_val rfl rfl (fun w hI => x_move (by conv => lhs; whnf)) ?_
        refine r_val rfl rfl (fun w hI => x_move (by conv => lhs; whnf)) ?_
        refine r_val rfl rfl (fun w hI => x_index (show SlT Try.prog 22 33 5 56 from ⟨by kernel_rfl, by kernel_rfl⟩) rfl rfl (by omega) (by omega) (HA1 _ hI)) ?_
        refine r_val rfl rfl (fun w hI => x_fieldR (off := 1) (by kernel_rfl) rfl (HA1 _ hI) (by rw [actCells_len]; omega)) ?_
        refine r_val rfl rfl (fun w hI => x_loadR (by kernel_rfl) rfl (HA1 _ hI) (hel _ 1 (by omega) (by omega))) ?_
        refine r_val rfl rfl (fun w hI => x_move (by conv => lhs; whnf)) ?_
        refine r_val rfl rfl (fun w hI => x_move (by conv => lhs; whnf)) ?_
        refine r_val rfl rfl (fun w hI => x_move (by conv => lhs; whnf)) ?_
        refine r_val rfl rfl (fun w hI => x_index (show SlT Try.prog 22 33 5 56 from ⟨by kernel_rfl, by kernel_rfl⟩) rfl rfl (by omega) (by omega) (HA1 _ hI)) ?_
        refine r_val rfl rfl (fun w hI => x_fieldR (off := 3) (by kernel_rfl) rfl (HA1 _ hI) (by rw [actCells_len]; omega)) ?_
        refine r_val rfl rfl (fun w hI => x_loadR (by kernel_rfl) rfl (HA1 _ hI) (hel _ 3 (by omega) (by omega))) ?_
        refine r_one rfl ?_
        refine s_call rfl (by kernel_rfl) (Sectors_calls (H.holdD (i := 0) rfl (j := 3) rfl hsh)) rfl rfl ?_
        rintro r w10 ⟨rfl, e4⟩
        replace H := H.heapEq e4
        clear e4
        rw [hVl]
        refine s_end ?_
        refine ⟨H.ext, ?_⟩
        refine r_one rfl ?_
        refine s_call rfl (by kernel_rfl) (Among_calls b.at_ s (by omega) (by omega)) rfl rfl ?_
        rintro r w11 ⟨rfl, rfl⟩
        refine s_end ?_
        refine ⟨H.ext, ?_⟩
        refine r_one rfl ?_
        refine s_call rfl (by kernel_rfl) (full_calls b.fill) rfl rfl ?_
        rintro r w12 ⟨a6, rfl, H6⟩
        replace H : Sat w w12 [DISK d (limD s (zeroV s) A1 nl k) sh, DISK c (plainD (zeroV s) 0) sh, emp, stars [S, emp], slo 5 1 a6 256 256 (bys (fullS b.fill))] := H.more H6
        clear H6
        refine s_end ?_
        refine ⟨H.ext, ?_⟩
        refine r_one rfl ?_
        refine s_call rfl (by kernel_rfl) (Write_at H (i := 0) rfl (j := 2) rfl hsh (among b.at_ s) (k := 3) rfl hsmall) rfl rfl ?_
        clear H
        rintro r w13 ⟨rfl, H⟩
        have hst' : (limD s (zeroV s) A1 nl k).write (among b.at_ s) (fullS b.fill) = (if k < nl then 0 else 10, limD s (zeroV s) A1 nl (k + 1)) := by
          have h5 : (limD s (zeroV s) A1 nl k).write ((among b.at_ s).toNat : Int) (fullS b.fill) = _ := hst
          rw [show (((among b.at_ s).toNat : Nat) : Int) = among b.at_ s by omega] at h5
          exact h5
        rw [hst'] at H ⊢
        replace H : Sat w w13 [DISK d (limD s (zeroV s) A1 nl (k + 1)) sh, DISK c (plainD (zeroV s) 0) sh, emp, stars [S, emp]] := H.drop 4
        refine s_end ?_
        refine ⟨H.ext, ?_⟩
        refine r_val rfl rfl (fun w hI => x_assign (by conv => lhs; whnf)) ?_
        refine r_done ?_
        refine thenQ_n ?_
        have hf : ∃ fv : Int, (if k < nl then (0 : Int) else 10) = fv ∧ (fv = 0 ∧ k < nl ∨ fv = 10 ∧ ¬ k < nl) := by
          by_cases h : k < nl
          · exact ⟨0, by rw [if_pos h], .inl ⟨rfl, h⟩⟩
          · exact ⟨10, by rw [if_neg h], .inr ⟨rfl, h⟩⟩
        obtain ⟨fv, hfe, hfv⟩ := hf
        simp only [hfe]
        have hb1 : (!(decide (fv = 0) == decide ((k : Int) < (nl : Int)))) = false := by
          rcases hfv with ⟨h, h'⟩ | ⟨h, h'⟩
          · rw [decide_eq_true h, decide_eq_true (show (k : Int) < nl by omega)]; rfl
          · rw [decide_eq_false (show ¬ fv = 0 by omega), decide_eq_false (show ¬ (k : Int) < nl by omega)]; rfl
        refine WP_r rfl ?_
        refine s_val rfl (x_move (by conv => lhs; whnf)) ?_
        refine s_val rfl (x_eql rfl rfl) ?_
        refine s_val rfl (x_move (by conv => lhs; whnf)) ?_
        refine s_val rfl (x_move (by conv => lhs; whnf)) ?_
        refine s_val rfl (x_lss rfl rfl) ?_
        refine s_val rfl (x_neqBool_of hb1 (by kernel_rfl) rfl rfl) ?_
        refine s_val rfl (x_move (by conv => lhs; whnf)) ?_
        refine s_val rfl (x_move (by conv => lhs; whnf)) ?_
        refine s_val rfl (x_neq (a := fv) (b := 0) rfl rfl) ?_
        refine s_dec rfl (x_move rfl) (fun h6 => ?_) (fun h6 => ?_)
        · skip
          refine s_val rfl (x_move (by conv => lhs; whnf)) ?_
          refine s_val rfl (x_neq (a := fv) (b := 10) rfl rfl) ?_
          refine s_val rfl (x_pick_true rfl (by conv => lhs; whnf)) ?_
          refine s_val rfl (x_pick_false rfl (by conv => lhs; whnf)) ?_
          refine s_end ?_
          refine WP_cond_dec rfl (fun h7 => ?_) (fun h7 => ?_)
          · exact absurd h7 (by omega) --done
          · skip
            refine WP_skip ?_
            refine blockQ_n ?_
            refine thenQ_n ?_
            refine WP_region rfl ?_
            refine s_val rfl (x_move (by conv => lhs; whnf)) ?_
            refine s_val rfl (x_addi rfl rfl (by omega)) ?_
            refine s_val rfl (x_assign (by conv => lhs; whnf)) ?_
            refine s_end ?_
            refine loopQ_A (k + 1) (by omega) ⟨rfl, rfl, rfl, rfl, rfl, rfl, trivial⟩ ⟨by omega, H⟩
        · skip
          refine s_out rfl ?_
          refine s_out rfl ?_
          refine s_val rfl (x_pick_false rfl (by conv => lhs; whnf)) ?_
          refine s_val rfl (x_pick_false rfl (by conv => lhs; whnf)) ?_
          refine s_end ?_
          refine WP_cond_false rfl ?_
          refine WP_skip ?_
          refine blockQ_n ?_
          refine thenQ_n ?_
          refine WP_region rfl ?_
          refine s_val rfl (x_move (by conv => lhs; whnf)) ?_
          refine s_val rfl (x_addi rfl rfl (by omega)) ?_
          refine s_val rfl (x_assign (by conv => lhs; whnf)) ?_
          refine s_end ?_
          refine loopQ_A (k + 1) (by omega) ⟨rfl, rfl, rfl, rfl, rfl, rfl, trivial⟩ ⟨by omega, H⟩
    · skip
      refine WP_exit ?_
      refine thenQ_e ?_
      refine loopQ_e ?_
      refine blockQ_hit ?_
      have hkm : k = m := by omega
      subst hkm
      have HR := HA1 _ H.ext
      have hcp := HR.2.1
      refine thenQ_n ?_
      refine WP_r rfl ?_
      refine s_val rfl (x_move (by conv => lhs; whnf)) ?_
      refine s_val rfl (x_move (by conv => lhs; whnf)) ?_
      refine s_val rfl (x_move (by conv => lhs; whnf)) ?_
      refine s_val rfl (x_move (by conv => lhs; whnf)) ?_
      refine s_val rfl (x_lenS (by kernel_rfl) rfl) ?_
      refine s_val rfl (x_min2 rfl rfl) ?_
      refine s_val rfl (x_sliceHi (show SlT Try.prog 22 33 5 56 from ⟨by kernel_rfl, by kernel_rfl⟩) rfl rfl (by omega) (by omega) HR.2.1) ?_
      refine s_call rfl (by kernel_rfl) (do_at H (i := 1) rfl (j := 2) rfl hsh (acts := A1.take (min nl k)) (fun w' e => by have h := act_prefix (HA1 w' e) (m := min nl k) (by omega); exact (show (min (nl : Int) (k : Int)).toNat = min nl k by omega) ▸ h) (zeroV_len s) hs0 (zeroV_small s)) rfl rfl ?_
      clear H
      rintro r w9 ⟨rfl, H⟩
      rw [show (min (nl : Int) (k : Int)).toNat = min nl k by omega] at H
      have hmk : min 200 (min nl k) = min nl k := by omega
      rw [hmk, List.take_take, Nat.min_self] at H
      simp only [List.set_cons_zero, List.set_cons_succ] at H
      have hVl : (limD s (zeroV s) A1 nl k).vals.length = s := by rw [limD_vals, runV_len, zeroV_len]
      refine s_end ?_
      refine WP_r rfl ?_
      refine s_val rfl (x_move (by conv => lhs; whnf)) ?_
      refine s_val rfl (x_move (by conv => lhs; whnf)) ?_
      refine s_val rfl (x_move (by conv => lhs; whnf)) ?_
      refine s_call rfl (by kernel_rfl) (Sectors_calls (H.holdD (i := 0) rfl (j := 3) rfl hsh)) rfl rfl ?_
      rintro r w10 ⟨rfl, e4⟩
      replace H := H.heapEq e4
      clear e4
      rw [hVl]
      refine s_call rfl (by kernel_rfl) (Among_calls at_ s (by omega) (by omega)) rfl rfl ?_
      rintro r w11 ⟨rfl, rfl⟩
      have hat := among_bounds at_ s (by omega)
      refine s_call rfl (by kernel_rfl) (Read_calls (H.holdD (i := 0) rfl (j := 3) rfl hsh) (among at_ s)) rfl rfl ?_
      rintro r w12 ⟨a5, n5, c5, rfl, H5⟩
      replace H := H.more H5
      clear H5
      simp only [List.cons_append, List.nil_append] at H
      obtain ⟨fr, hfr⟩ : ∃ fr, ((limD s (zeroV s) A1 nl k).read (among at_ s)).1 = fr := ⟨_, rfl⟩
      have hfr2 : (fr = 10 ∧ nl < k) ∨ (fr = 0 ∧ ¬ nl < k) := by
        rw [← hfr]
        unfold D.read
        rw [if_neg (by rw [hVl]; omega)]
        unfold limD
        by_cases h : k ≤ nl
        · rw [if_pos h]; exact .inr ⟨rfl, by omega⟩
        · rw [if_neg h]; exact .inl ⟨rfl, by omega⟩
      rw [hfr]
      have hb2 : (decide (fr = 10) == decide ((nl : Int) < (k : Int))) = true := by
        rcases hfr2 with ⟨h, h'⟩ | ⟨h, h'⟩
        · rw [decide_eq_true h, decide_eq_true (show (nl : Int) < k by omega)]; rfl
        · rw [decide_eq_false (show ¬ fr = 10 by omega), decide_eq_false (show ¬ (nl : Int) < k by omega)]; rfl
      refine s_val rfl (x_move (by conv => lhs; whnf)) ?_
      refine s_val rfl (x_extract rfl rfl) ?_
      refine s_val rfl (x_extract rfl rfl) ?_
      refine s_val rfl (x_assign (by conv => lhs; whnf)) ?_
      refine s_val rfl (x_assign (by conv => lhs; whnf)) ?_
      refine s_end ?_
      refine WP_r rfl ?_
      refine s_val rfl (x_move (by conv => lhs; whnf)) ?_
      refine s_val rfl (x_lenS (by kernel_rfl) rfl) ?_
      refine s_val rfl (x_move (by conv => lhs; whnf)) ?_
      refine s_val rfl (x_gtr rfl rfl) ?_
      refine s_val rfl (x_assign (by conv => lhs; whnf)) ?_
      refine s_end ?_
      refine WP_r rfl ?_
      refine s_val rfl (x_move (by conv => lhs; whnf)) ?_
      refine s_call rfl (by kernel_rfl) (Image_calls (H.holdD (i := 1) rfl (j := 3) rfl hsh)) rfl rfl ?_
      rintro r w13 ⟨a6, c6, rfl, H6⟩
      replace H := H.more H6
      clear H6
      simp only [List.cons_append, List.nil_append] at H
      refine s_val rfl (x_move (by conv => lhs; whnf)) ?_
      refine s_call rfl (by kernel_rfl) (Image_calls (H.holdD (i := 0) rfl (j := 3) rfl hsh)) rfl rfl ?_
      rintro r w14 ⟨a7, c7, rfl, H7⟩
      replace H := H.more H7
      clear H7
      simp only [List.cons_append, List.nil_append] at H
      have hve : (plainD (runV s (A1.take (min nl k)) (zeroV s)) (min nl k)).vals = (limD s (zeroV s) A1 nl k).vals := by rw [limD_vals]; rfl
      have hv2 : (plainD (runV s (A1.take (min nl k)) (zeroV s)) (min nl k)).vals.length = s := by rw [hve, hVl]
      refine s_call rfl (by kernel_rfl) (SameBytes_calls (H.rd (i := 5) rfl) (H.rd (i := 6) rfl) (by rw [hv2]; omega)) rfl rfl ?_
      rintro r w15 ⟨rfl, e15⟩
      rw [decide_eq_true (image_vals hve)]
      replace H := H.heapEq e15
      clear e15
      refine s_val rfl (x_move (by conv => lhs; whnf)) ?_
      refine s_val rfl (x_move (by conv => lhs; whnf)) ?_
      refine s_call rfl (by kernel_rfl) (Sure_calls (H.holdD (i := 1) rfl (j := 3) rfl hsh)) rfl rfl ?_
      rintro r w16 ⟨a8, c8, rfl, H8⟩
      replace H := H.more H8
      clear H8
      simp only [List.cons_append, List.nil_append] at H
      refine s_val rfl (x_move (by conv => lhs; whnf)) ?_
      refine s_call rfl (by kernel_rfl) (Sure_calls (H.holdD (i := 0) rfl (j := 3) rfl hsh)) rfl rfl ?_
      rintro r w17 ⟨a9, c9, rfl, H9⟩
      replace H := H.more H9
      clear H9
      simp only [List.cons_append, List.nil_append] at H
      refine s_call rfl (by kernel_rfl) (SameBytes_calls (H.rd (i := 7) rfl) (H.rd (i := 8) rfl) (by rw [hv2]; omega)) rfl rfl ?_
      rintro r w18 ⟨rfl, e18⟩
      rw [decide_eq_true (sure_vals hve)]
      replace H := H.heapEq e18
      clear e18
      refine s_val rfl (x_pick_true rfl (by conv => lhs; whnf)) ?_
      refine s_val rfl (x_move (by conv => lhs; whnf)) ?_
      refine s_val rfl (x_move (by conv => lhs; whnf)) ?_
      refine s_call rfl (by kernel_rfl) (Ops_calls (H.holdD (i := 0) rfl (j := 3) rfl hsh)) rfl rfl ?_
      rintro r w19 ⟨rfl, e19⟩
      replace H := H.heapEq e19
      clear e19
      have htk : (limD s (zeroV s) A1 nl k).taken = min (nl : Int) (k : Int) := by
        unfold limD
        by_cases h : k ≤ nl
        · rw [if_pos h]; show (k : Int) = _; omega
        · rw [if_neg h]; show (nl : Int) = _; omega
      rw [htk]
      refine s_val rfl (x_move (by conv => lhs; whnf)) ?_
      refine s_val rfl (x_move (by conv => lhs; whnf)) ?_
      refine s_val rfl (x_lenS (by kernel_rfl) rfl) ?_
      refine s_val rfl (x_min2 rfl rfl) ?_
      refine s_val rfl (x_eql_true (a := min (nl : Int) (k : Int)) rfl rfl) ?_
      refine s_val rfl (x_pick_true rfl (by conv => lhs; whnf)) ?_
      refine s_val rfl (x_move (by conv => lhs; whnf)) ?_
      refine s_val rfl (x_move (by conv => lhs; whnf)) ?_
      refine s_val rfl (x_eql rfl rfl) ?_
      refine s_val rfl (x_move (by conv => lhs; whnf)) ?_
      refine s_val rfl (x_eqlBool_of hb2 (by kernel_rfl) rfl rfl) ?_
      refine s_val rfl (x_pick_true rfl (by conv => lhs; whnf)) ?_
      refine s_val rfl (x_move (by conv => lhs; whnf)) ?_
      refine s_val rfl (x_move (by conv => lhs; whnf)) ?_
      refine s_call rfl (by kernel_rfl) (Crash_at0 H (i := 0) rfl (j := 2) rfl hsh) rfl rfl ?_
      clear H
      rintro r w20 ⟨rfl, H⟩
      simp only [List.set_cons_zero] at H
      refine s_val rfl (x_eql rfl rfl) ?_
      refine s_val rfl (x_pick_true rfl (by conv => lhs; whnf)) ?_
      refine s_val rfl (x_move (by conv => lhs; whnf)) ?_
      refine s_val rfl (x_move (by conv => lhs; whnf)) ?_
      refine s_call rfl (by kernel_rfl) (Sync_at H (i := 0) rfl (j := 2) rfl hsh) rfl rfl ?_
      clear H
      rintro r w21 ⟨rfl, H⟩
      have hsy : ((limD s (zeroV s) A1 nl k).crash []).sync.1 = 0 := by
        have h := act_on (x := (limD s (zeroV s) A1 nl k).crash []) rfl (by show (-1 : Int) ≠ 0; decide) (o := none) (fun i c h => by cases h)
        exact congrArg Prod.fst h
      rw [hsy]
      refine s_val rfl (x_eql rfl rfl) ?_
      refine s_val rfl (x_pick_true rfl (by conv => lhs; whnf)) ?_
      refine s_val rfl (x_assign (by conv => lhs; whnf)) ?_
      refine s_end ?_
      refine WP_ret ?_
      refine retQ_1 rfl (by conv => lhs; whnf) ?_
      exact ⟨rfl, H.ext⟩
end Go.Sl
