/- The disk: New, Load. -/
import Derived.Test.YthalgkfafoehkaaDisk9
namespace Go.Sl
open Go.Proofs

def zsect : Sect := List.replicate 256 0
theorem zsect_len : zsect.length = 256 := List.length_replicate ..
def D.zero (n : Nat) : D := { vals := List.replicate n [zsect], left := -1, off := false, taken := 0 }
/-- The image's sectors. -/
def chunks : Nat → List UInt8 → List Sect
  | 0, _ => []
  | n + 1, S => S.take 256 :: chunks n (S.drop 256)
def D.ofImage (n : Nat) (S : List UInt8) : D := { vals := (chunks n S).map fun b => [b], left := -1, off := false, taken := 0 }
theorem chunks_len : ∀ (n : Nat) (S : List UInt8), (chunks n S).length = n := by
  intro n
  induction n with
  | zero => intro S; rfl
  | succ n ih => intro S; rw [chunks, List.length_cons, ih]
theorem chunks_flat : ∀ (n : Nat) (S : List UInt8), S.length = 256 * n → (chunks n S).flatten = S ∧ ∀ b ∈ chunks n S, b.length = 256 := by
  intro n
  induction n with
  | zero => intro S h; exact ⟨(List.length_eq_zero_iff.1 (by omega) : S = []) ▸ rfl, fun b hb => by cases hb⟩
  | succ n ih =>
    intro S h
    obtain ⟨h1, h2⟩ := ih (S.drop 256) (by rw [List.length_drop]; omega)
    refine ⟨by rw [chunks, List.flatten_cons, h1, List.take_append_drop], fun b hb => ?_⟩
    rw [chunks] at hb
    rcases List.mem_cons.1 hb with e | e
    · rw [e, List.length_take]; omega
    · exact h2 b e
theorem single_ok {S : List Sect} (h1 : 0 < S.length) (h2 : S.length ≤ 4096) (h3 : ∀ b ∈ S, b.length = 256) : (D.Ok ⟨S.map (fun b => [b]), -1, false, 0⟩) := by
  refine ⟨by simpa using h1, by simpa using h2, fun l hl => ?_, fun l hl b hb => ?_, ⟨by show (-1 : Int) ≤ -1; decide, by show (-1 : Int) ≤ _; decide⟩, ⟨by show _ ≤ (0 : Int); decide, by show (0 : Int) ≤ _; decide⟩⟩
  · obtain ⟨b, _, rfl⟩ := List.mem_map.1 hl
    exact ⟨by simp, by simp⟩
  · obtain ⟨c, hc, rfl⟩ := List.mem_map.1 hl
    simp at hb; subst hb; exact h3 _ hc
theorem single_one {S : List Sect} : ∀ l ∈ S.map (fun b => [b]), l.length = 1 := fun l hl => by
  obtain ⟨b, _, rfl⟩ := List.mem_map.1 hl; rfl
theorem single_sure {S : List Sect} (left : Int) (off : Bool) (taken : Int) : (D.mk (S.map (fun b => [b])) left off taken).sure = S.flatten := by
  rw [D.sure_eq, List.map_map]
  have : (fun l : List Sect => l.headD []) ∘ (fun b : Sect => [b]) = id := by funext b; rfl
  rw [this, List.map_id]
theorem zero_eq (n : Nat) : D.zero n = ⟨(List.replicate n zsect).map (fun b => [b]), -1, false, 0⟩ := by
  unfold D.zero; rw [List.map_replicate]
theorem flat_zero (n : Nat) : bys (List.replicate n zsect).flatten = List.replicate (256 * n) (.int .u8 0) := by
  unfold bys zsect
  rw [List.flatten_replicate_replicate, List.map_replicate, Nat.mul_comm]; rfl
theorem New_calls {w : World} (s : Int) : Calls Try.prog 7 #[.int .i64 s] w (Ret fun v w' => (((s < 1 ∨ 4096 < s) → v = .tuple #[.pointer none, .int .i64 2] ∧ Ext w w') ∧
    (¬ (s < 1 ∨ 4096 < s) → ∃ d, v = .tuple #[dp d, .int .i64 0] ∧ Sat w w' [DISK d (D.zero s.toNat) []]))) := by
  have H := Sat.nil (Ext.refl w)
  refine calls_of Try.func7 rfl rfl ?_
  refine WP_r rfl ?_
  refine s_val rfl (x_assign (by conv => lhs; whnf)) ?_
  refine s_val rfl (x_assign (by conv => lhs; whnf)) ?_
  refine s_end ?_
  refine WP_seq ?_
  refine WP_r rfl ?_
  refine s_val rfl (x_move (by conv => lhs; whnf)) ?_
  refine s_val rfl (x_lss rfl rfl) ?_
  refine s_dec rfl (x_move rfl) (fun h1 => ?_) (fun h1 => ?_)
  · skip
    refine s_out rfl ?_
    refine s_out rfl ?_
    refine s_val rfl (x_pick_true rfl (by conv => lhs; whnf)) ?_
    refine s_end ?_
    refine WP_cond_true rfl ?_
    refine WP_r rfl ?_
    refine s_val rfl (x_assign (by conv => lhs; whnf)) ?_
    refine s_val rfl (x_assign (by conv => lhs; whnf)) ?_
    refine s_end ?_
    refine WP_ret ?_
    refine thenQ_r ?_
    refine retQ_2 rfl (by conv => lhs; whnf) (by conv => lhs; whnf) ?_
    first
      | exact ⟨fun _ => ⟨rfl, Ext.refl w⟩, fun h => absurd (by omega) h⟩
  · skip
    refine s_val rfl (x_move (by conv => lhs; whnf)) ?_
    refine s_val rfl (x_gtr rfl rfl) ?_
    refine s_val rfl (x_pick_false rfl (by conv => lhs; whnf)) ?_
    refine s_end ?_
    refine WP_cond_dec rfl (fun h2 => ?_) (fun h2 => ?_)
    · skip
      refine WP_r rfl ?_
      refine s_val rfl (x_assign (by conv => lhs; whnf)) ?_
      refine s_val rfl (x_assign (by conv => lhs; whnf)) ?_
      refine s_end ?_
      refine WP_ret ?_
      refine thenQ_r ?_
      refine retQ_2 rfl (by conv => lhs; whnf) (by conv => lhs; whnf) ?_
      first
        | exact ⟨fun _ => ⟨rfl, Ext.refl w⟩, fun h => absurd (by omega) h⟩
    · skip
      refine WP_skip ?_
      refine thenQ_n ?_
      refine WP_r rfl ?_
      refine s_val rfl (x_move (by conv => lhs; whnf)) ?_
      refine s_val rfl (x_muli rfl rfl (by omega)) ?_
      refine s_makeSlice rfl (show SlT Try.prog 37 5 1 1 from ⟨by kernel_rfl, by kernel_rfl⟩) (show ZeroT Try.prog 5 (.int .u8 0) by unfold ZeroT; kernel_rfl) rfl rfl rfl (by omega) (by omega) (by omega) (by omega) H ?_
      intro b w1 H1
      clear H
      have H := H1.toSlo (i := 0) (n := (s * 256).toNat) (cap := (s * 256).toNat) (sz := 1) (cs := List.replicate (256 * s.toNat) (.int .u8 0)) rfl (Nat.le_refl _) (by simp) (by
        rw [show (s * 256).toNat = 256 * s.toNat by omega]; simp)
      clear H1
      simp only [List.nil_append, List.set_cons_zero] at H
      refine s_makeMap rfl H ?_
      clear H
      intro fb w2 H
      refine s_makeMap rfl H ?_
      clear H
      intro mb w3 H
      refine s_val rfl (x_build (show StT Try.prog 49 #[.slice none 0 0, .map none, .map none, .int .i64 0, .bool false, .int .i64 0] #[(0, 1), (1, 1), (2, 1), (3, 1), (4, 1), (5, 1)] from ⟨by kernel_rfl, by kernel_rfl⟩) rfl (show _ = some [_, _, _, _, _, _] from rfl)) ?_
      refine s_box rfl (by conv => lhs; whnf) H ?_
      clear H
      intro d w4 H
      refine s_val rfl (x_assign (by conv => lhs; whnf)) ?_
      refine s_val rfl (x_assign (by conv => lhs; whnf)) ?_
      refine s_end ?_
      refine WP_ret ?_
      refine retQ_2 rfl (by conv => lhs; whnf) (by conv => lhs; whnf) ?_
      refine ⟨fun h => absurd h (by omega), fun _ => ⟨d, rfl, ?_⟩⟩
      have h1 := ((H.imp (i := 1) (q := mapP pairF fb []) rfl (fun g hg => ⟨#[], 0, hg, mapIs_empty _ _⟩)).imp (i := 2) (q := mapP intF mb []) rfl (fun g hg => ⟨#[], 0, hg, mapIs_empty _ _⟩)).re 1 5 [3, 0, 2, 1, 4] (by kernel_rfl)
      have hz : ∀ b ∈ List.replicate s.toNat zsect, b.length = 256 := fun b hb => by rw [(List.mem_replicate.1 hb).2]; exact zsect_len
      have hone : ∀ l ∈ (D.zero s.toNat).vals, l.length = 1 := by rw [zero_eq]; exact single_one
      have hok : (D.zero s.toNat).Ok := by rw [zero_eq]; exact single_ok (by rw [List.length_replicate]; omega) (by rw [List.length_replicate]; omega) hz
      refine DISK.closeL (L := []) hok (many_none hone) (fresh_none hone) (fun _ h => by cases h) (fo := []) (fb := fb) (mb := mb) (a := some ⟨b, 0, none⟩) (cap := (s * 256).toNat) ?_
      unfold dlist
      rw [show (D.zero s.toNat).sure = (List.replicate s.toNat zsect).flatten by rw [zero_eq]; exact single_sure _ _ _, flat_zero, show (D.zero s.toNat).vals.length = s.toNat from List.length_replicate ..]
      rw [show (s * 256).toNat = 256 * s.toNat by omega] at h1 ⊢
      exact h1
theorem Load_calls {w : World} {a : Option Addr} {n cap : Nat} {S : List UInt8} (HR : Rd w a n cap 1 (bys S)) (hb : n ≤ 140737488355328) :
    Calls Try.prog 24 #[.slice a n cap] w (Ret fun v w' => ((S.length % 256 ≠ 0 ∨ S.length / 256 < 1 ∨ 4096 < S.length / 256) → v = .tuple #[.pointer none, .int .i64 2] ∧ Ext w w') ∧
    (¬ (S.length % 256 ≠ 0 ∨ S.length / 256 < 1 ∨ 4096 < S.length / 256) → ∃ d, v = .tuple #[dp d, .int .i64 0] ∧ Sat w w' [DISK d (D.ofImage (S.length / 256) S) []])) := by
  have hn : n = S.length := by have := HR.1; rw [bys_length] at this; omega
  refine calls_of Try.func24 rfl rfl ?_
  refine WP_r rfl ?_
  refine s_val rfl (x_assign (by conv => lhs; whnf)) ?_
  refine s_val rfl (x_assign (by conv => lhs; whnf)) ?_
  refine s_end ?_
  refine WP_seq ?_
  refine WP_r rfl ?_
  refine s_val rfl (x_move (by conv => lhs; whnf)) ?_
  refine s_val rfl (x_lenS (by kernel_rfl) rfl) ?_
  refine s_val rfl (x_remi rfl rfl (by omega)) ?_
  refine s_val rfl (x_neq rfl rfl) ?_
  refine s_end ?_
  refine WP_cond_dec rfl (fun h1 => ?_) (fun h1 => ?_)
  · skip
    refine WP_r rfl ?_
    refine s_val rfl (x_assign (by conv => lhs; whnf)) ?_
    refine s_val rfl (x_assign (by conv => lhs; whnf)) ?_
    refine s_end ?_
    refine WP_ret ?_
    refine thenQ_r ?_
    refine retQ_2 rfl (by conv => lhs; whnf) (by conv => lhs; whnf) ?_
    refine ⟨fun _ => ⟨rfl, Ext.refl w⟩, fun h => absurd (.inl ?_) h⟩
    omega
  · skip
    refine WP_skip ?_
    refine thenQ_n ?_
    refine WP_r rfl ?_
    refine s_val rfl (x_move (by conv => lhs; whnf)) ?_
    refine s_val rfl (x_lenS (by kernel_rfl) rfl) ?_
    refine s_val rfl (x_quoi rfl rfl (by omega)) ?_
    refine s_call rfl (by kernel_rfl) (New_calls ((n : Int) / 256)) rfl rfl ?_
    rintro v w1 ⟨hv1, hv2⟩
    by_cases hbad : ((n : Int) / 256 < 1 ∨ 4096 < (n : Int) / 256)
    · obtain ⟨rfl, hE⟩ := hv1 hbad
      refine s_val rfl (x_move (by conv => lhs; whnf)) ?_
      refine s_val rfl (x_extract rfl rfl) ?_
      refine s_val rfl (x_extract rfl rfl) ?_
      refine s_val rfl (x_assign (by conv => lhs; whnf)) ?_
      refine s_val rfl (x_assign (by conv => lhs; whnf)) ?_
      refine s_end ?_
      refine WP_seq ?_
      refine WP_r rfl ?_
      refine s_val rfl (x_move (by conv => lhs; whnf)) ?_
      refine s_val rfl (x_eql rfl rfl) ?_
      refine s_end ?_
      refine WP_cond_false rfl ?_
      refine WP_skip ?_
      refine thenQ_n ?_
      refine WP_r rfl ?_
      refine s_val rfl (x_move (by conv => lhs; whnf)) ?_
      refine s_val rfl (x_move (by conv => lhs; whnf)) ?_
      refine s_val rfl (x_assign (by conv => lhs; whnf)) ?_
      refine s_val rfl (x_assign (by conv => lhs; whnf)) ?_
      refine s_end ?_
      refine WP_ret ?_
      refine retQ_2 rfl (by conv => lhs; whnf) (by conv => lhs; whnf) ?_
      exact ⟨fun _ => ⟨rfl, hE⟩, fun h => absurd (by omega) h⟩
    · obtain ⟨d, rfl, H⟩ := hv2 hbad
      refine s_val rfl (x_move (by conv => lhs; whnf)) ?_
      refine s_val rfl (x_extract rfl rfl) ?_
      refine s_val rfl (x_extract rfl rfl) ?_
      refine s_val rfl (x_assign (by conv => lhs; whnf)) ?_
      refine s_val rfl (x_assign (by conv => lhs; whnf)) ?_
      refine s_end ?_
      refine WP_seq ?_
      refine WP_r rfl ?_
      refine s_val rfl (x_move (by conv => lhs; whnf)) ?_
      refine s_val rfl (x_eql rfl rfl) ?_
      refine s_end ?_
      refine WP_cond_true rfl ?_
      obtain ⟨a1, cap1, fb, mb, mm, ff, fo, hok, hM, hF, hfo, H⟩ := DISK.openL H
      simp only [dlist, List.cons_append, List.nil_append] at H
      have hL : (D.zero ((n : Int) / 256).toNat).vals.length = n / 256 := by
        show (List.replicate _ _).length = _
        rw [List.length_replicate]; omega
      have HR2 := HR.ext H.ext
      have hsl := (H.rd (i := 1) rfl).1
      refine WP_region rfl ?_
      refine s_val rfl (x_move (by conv => lhs; whnf)) ?_
      refine s_val rfl (x_nilCheck rfl) ?_
      refine s_val rfl (x_field (off := 0) (by kernel_rfl) rfl) ?_
      refine s_val rfl (x_load (by kernel_rfl) rfl (by first | assumption | exact H.cell (i := 0) rfl rfl | exact H.cell (i := 1) rfl rfl | exact H.cell (i := 2) rfl rfl | exact H.cell (i := 3) rfl rfl | exact H.cell (i := 4) rfl rfl | exact H.cell (i := 5) rfl rfl)) ?_
      refine s_val rfl (x_move (by conv => lhs; whnf)) ?_
      refine s_copy rfl (show SlT Try.prog 37 5 1 1 from ⟨by kernel_rfl, by kernel_rfl⟩) rfl rfl H (i := 1) rfl (k := 0) (fun h0 => by obtain ⟨b, off, ha, _⟩ := (H.rd (i := 1) rfl).2.2 h0; exact ⟨b, off, ha, ha⟩) (by rw [hsl]; omega) HR2 (bys_oneCell _) ?_
      clear H
      intro w2 H
      simp only [List.set_cons_zero, List.set_cons_succ] at H
      refine s_end ?_
      refine thenQ_n ?_
      refine WP_r rfl ?_
      refine s_val rfl (x_move (by conv => lhs; whnf)) ?_
      refine s_val rfl (x_move (by conv => lhs; whnf)) ?_
      refine s_val rfl (x_assign (by conv => lhs; whnf)) ?_
      refine s_val rfl (x_assign (by conv => lhs; whnf)) ?_
      refine s_end ?_
      refine WP_ret ?_
      refine retQ_2 rfl (by conv => lhs; whnf) (by conv => lhs; whnf) ?_
      refine ⟨fun h => absurd h (by omega), fun hg => ⟨d, rfl, ?_⟩⟩
      have hc := chunks_flat (n / 256) S (by omega)
      have hcl := chunks_len (n / 256) S
      have hone : ∀ l ∈ (D.ofImage (S.length / 256) S).vals, l.length = 1 := single_one
      have hok' : (D.ofImage (S.length / 256) S).Ok := single_ok (by rw [chunks_len]; omega) (by rw [chunks_len]; omega) (by rw [← hn]; exact hc.2)
      have hmm : mm = [] := by
        cases mm with
        | nil => rfl
        | cons p mm =>
          obtain ⟨i, l, h1, h2, _⟩ := (hM p.1 p.2).1 (List.mem_cons_self ..)
          rw [(List.mem_replicate.1 (List.mem_of_getElem? h1)).2] at h2
          exact absurd h2 (by decide)
      have hff : ff = [] := by
        cases ff with
        | nil => rfl
        | cons e ff =>
          obtain ⟨i, j, l, h1, h2, h3, _⟩ := (hF e.at_ e.n e.bs).1 ⟨e, List.mem_cons_self .., rfl, rfl⟩
          rw [(List.mem_replicate.1 (List.mem_of_getElem? h1)).2] at h3
          have := (List.getElem?_eq_some_iff.1 h3).1
          simp at this; omega
      subst hmm hff
      have e1 : pasted (bys (D.zero ((n : Int) / 256).toNat).sure) 0 ((bys S).take (min n (256 * (D.zero ((n : Int) / 256).toNat).vals.length) * 1)) = bys S := by
        have e0 : (bys S).take (min n (256 * (D.zero ((n : Int) / 256).toNat).vals.length) * 1) = bys S := List.take_of_length_le (by rw [hL, bys_length]; omega)
        have e2 : (bys (D.zero ((n : Int) / 256).toNat).sure).drop (0 + (bys S).length) = [] := List.drop_of_length_le (by rw [bys_length, bys_length, sure_len hok, hL]; omega)
        rw [e0]
        unfold pasted
        rw [e2, List.append_nil]; rfl
      rw [e1] at H
      refine DISK.closeL (L := []) hok' (many_none hone) (fresh_none hone) (fun _ h => by cases h) (fo := fo) (fb := fb) (mb := mb) (a := a1) (cap := cap1) ?_
      unfold dlist
      rw [show (D.ofImage (S.length / 256) S).sure = (chunks (S.length / 256) S).flatten from single_sure _ _ _, ← hn, hc.1, show (D.ofImage (n / 256) S).vals.length = n / 256 by show (List.map _ _).length = _; rw [List.length_map, hcl]]
      rw [hL] at H
      exact H
end Go.Sl
