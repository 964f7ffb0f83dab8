/- The disk: writing. -/
import Derived.Test.YthalgkfafoehkaaDisk3
namespace Go.Sl
open Go.Proofs

theorem pt_mem {κ : Type} [DecidableEq κ] {m : List (κ × Value)} (k : κ) (v : Value) (k' : κ) (v' : Value) :
    (k', v') ∈ pt m k v ↔ (k' = k ∧ v' = v) ∨ (k' ≠ k ∧ (k', v') ∈ m) := by
  unfold pt
  split
  · rename_i hs
    obtain ⟨p, hp, hpk⟩ : ∃ p ∈ m, p.1 = k := by
      unfold lk at hs
      rw [Option.isSome_map, List.find?_isSome] at hs
      obtain ⟨p, h1, h2⟩ := hs
      exact ⟨p, h1, by simpa using h2⟩
    rw [List.mem_map]
    constructor
    · rintro ⟨q, hq, e⟩
      by_cases hqk : q.1 = k
      · rw [if_pos hqk] at e
        injection e with e1 e2
        exact .inl ⟨e1.symm, e2.symm⟩
      · rw [if_neg hqk] at e
        subst e
        exact .inr ⟨hqk, hq⟩
    · rintro (⟨rfl, rfl⟩ | ⟨h1, h2⟩)
      · exact ⟨p, hp, by rw [if_pos hpk]⟩
      · exact ⟨_, h2, by rw [if_neg h1]⟩
  · rename_i hs
    rw [List.mem_append]
    have hno : ∀ u, (k, u) ∉ m := fun u hu => hs (by
      unfold lk
      rw [Option.isSome_map, List.find?_isSome]
      exact ⟨_, hu, by simp⟩)
    constructor
    · rintro (h | h)
      · refine .inr ⟨?_, h⟩
        rintro rfl
        exact hno _ h
      · simp at h
        exact .inl h
    · rintro (⟨rfl, rfl⟩ | ⟨h1, h2⟩)
      · exact .inr (by simp)
      · exact .inl h2
theorem Sat.absorb {w0 w : World} {L M : List HP} {i : Nat} {p : HP} (H : Sat w0 w (L ++ [p])) (hi : L[i]? = some (stars M)) : Sat w0 w (L.set i (stars (M ++ [p]))) := by
  have h1 : (L ++ [p]).Perm (stars M :: (p :: L.eraseIdx i)) := (((perm_pick hi).append_right [p])).trans (by
    rw [List.cons_append]
    exact (List.perm_append_comm (l₁ := L.eraseIdx i) (l₂ := [p])).cons _)
  have h2 := (H.perm h1).join
  have h3 : Sat w0 w ((M ++ [p]) ++ L.eraseIdx i) := by simpa using h2
  exact h3.part.perm (perm_set (lt_of_pick hi) _)

def D.put (x : D) (i : Nat) (b : Sect) : D := { x with vals := x.vals.set i (x.vals.getD i [] ++ [b]) }
def D.write (x : D) (at_ : Int) (b : List UInt8) : Int × D :=
  if at_ < 0 ∨ (x.vals.length : Int) ≤ at_ then (2, x) else if b.length ≠ 256 then (2, x) else if x.take.1 = false then (10, x.take.2) else (0, x.take.2.put at_.toNat b)
theorem take_vals (x : D) : x.take.2.vals = x.vals := by
  unfold D.take
  split <;> rfl
theorem take_ok {x : D} (h : x.Ok) : x.take.2.Ok := by
  have hl := h.left
  unfold D.take
  split
  · exact ⟨h.1, h.2, h.3, h.4, h.5, h.6⟩
  · exact ⟨h.1, h.2, h.3, h.4, by show -1 ≤ max (-1) (x.left - 1) ∧ max (-1) (x.left - 1) ≤ 9223372036854775807; omega, wrap_bounds _⟩
theorem put_many {x : D} {mm : List (Int × Value)} (h : Many x mm) {i : Nat} {l : List Sect} (hi : x.vals[i]? = some l) (hl : l ≠ []) (b : Sect) :
    Many (x.put i b) (pt mm (i : Int) (.int .i64 (((l.length - 1 : Nat) : Int) + 1))) := by
  have hil := (List.getElem?_eq_some_iff.1 hi).1
  have hg : x.vals.getD i [] = l := by simp [List.getD_eq_getElem?_getD, hi]
  have hpos : 0 < l.length := List.length_pos_iff.2 hl
  intro k v
  rw [pt_mem]
  constructor
  · rintro (⟨rfl, rfl⟩ | ⟨h1, h2⟩)
    · refine ⟨i, l ++ [b], ?_, by simp; omega, rfl, by simp; omega⟩
      show (x.vals.set i (x.vals.getD i [] ++ [b]))[i]? = _
      rw [hg]; simp [hil]
    · obtain ⟨j, l', h3, h4, h5, h6⟩ := (h k v).1 h2
      refine ⟨j, l', ?_, h4, h5, h6⟩
      show (x.vals.set i (x.vals.getD i [] ++ [b]))[j]? = _
      rw [List.getElem?_set_ne (by omega)]; exact h3
  · rintro ⟨j, l', h3, h4, h5, h6⟩
    have h3' : (x.vals.set i (x.vals.getD i [] ++ [b]))[j]? = some l' := h3
    by_cases hij : i = j
    · subst hij
      rw [hg] at h3'
      simp [hil] at h3'
      subst h3'
      left
      refine ⟨h5, ?_⟩
      rw [h6]
      simp
      omega
    · rw [List.getElem?_set_ne hij] at h3'
      exact .inr ⟨by omega, (h k v).2 ⟨j, l', h3', h4, h5, h6⟩⟩
theorem put_fresh {x : D} {ff : List Fe} (h : Fresh x ff) {i : Nat} {l : List Sect} (hi : x.vals[i]? = some l) (hl : l ≠ []) (b : Sect) (a : Option Addr) (cap : Nat) :
    Fresh (x.put i b) (ff ++ [⟨i, ((l.length - 1 : Nat) : Int) + 1, a, cap, b⟩]) := by
  have hil := (List.getElem?_eq_some_iff.1 hi).1
  have hg : x.vals.getD i [] = l := by simp [List.getD_eq_getElem?_getD, hi]
  have hpos : 0 < l.length := List.length_pos_iff.2 hl
  intro k1 k2 bs
  constructor
  · rintro ⟨e, he, hk, hb⟩
    rcases List.mem_append.1 he with he | he
    · obtain ⟨i', j, l', h1, h2, h3, h4, h5⟩ := (h k1 k2 bs).1 ⟨e, he, hk, hb⟩
      by_cases hii : i = i'
      · subst hii
        rw [hi] at h1; injection h1 with h1; subst h1
        refine ⟨i, j, l ++ [b], ?_, h2, ?_, h4, h5⟩
        · show (x.vals.set i (x.vals.getD i [] ++ [b]))[i]? = _
          rw [hg]; simp [hil]
        · rw [List.getElem?_append_left (List.getElem?_eq_some_iff.1 h3).1]; exact h3
      · refine ⟨i', j, l', ?_, h2, h3, h4, h5⟩
        show (x.vals.set i (x.vals.getD i [] ++ [b]))[i']? = _
        rw [List.getElem?_set_ne hii]; exact h1
    · simp only [List.mem_singleton] at he
      subst he
      injection hk with hk1 hk2
      refine ⟨i, l.length, l ++ [b], ?_, hpos, ?_, hk1.symm, ?_⟩
      · show (x.vals.set i (x.vals.getD i [] ++ [b]))[i]? = _
        rw [hg]; simp [hil]
      · rw [List.getElem?_append_right (Nat.le_refl _)]; simp; exact hb
      · rw [← hk2]; show ((l.length - 1 : Nat) : Int) + 1 = _; omega
  · rintro ⟨i', j, l', h1, h2, h3, h4, h5⟩
    have h1' : (x.vals.set i (x.vals.getD i [] ++ [b]))[i']? = some l' := h1
    by_cases hii : i = i'
    · subst hii
      rw [hg] at h1'
      simp [hil] at h1'
      subst h1'
      by_cases hj : j < l.length
      · rw [List.getElem?_append_left hj] at h3
        obtain ⟨e, he, hk, hb⟩ := (h k1 k2 bs).2 ⟨i, j, l, hi, h2, h3, h4, h5⟩
        exact ⟨e, List.mem_append.2 (.inl he), hk, hb⟩
      · have hj2 : j = l.length := by
          have := (List.getElem?_eq_some_iff.1 h3).1
          simp at this; omega
        subst hj2
        rw [List.getElem?_append_right (Nat.le_refl _)] at h3
        simp at h3
        refine ⟨_, List.mem_append.2 (.inr (List.mem_singleton.2 rfl)), ?_, h3⟩
        show ((i : Int), ((l.length - 1 : Nat) : Int) + 1) = (k1, k2)
        rw [h4, h5]; congr 1; omega
    · rw [List.getElem?_set_ne hii] at h1'
      obtain ⟨e, he, hk, hb⟩ := (h k1 k2 bs).2 ⟨i', j, l', h1', h2, h3, h4, h5⟩
      exact ⟨e, List.mem_append.2 (.inl he), hk, hb⟩
theorem put_ok {x : D} (h : x.Ok) {i : Nat} {b : Sect} (hb : b.length = 256) (hc : (x.vals.getD i []).length < 4611686018427387904) : (x.put i b).Ok := by
  have hmem : ∀ l ∈ x.vals.set i (x.vals.getD i [] ++ [b]), l ∈ x.vals ∨ (l = x.vals.getD i [] ++ [b] ∧ i < x.vals.length) := by
    intro l hl
    rcases Nat.lt_or_ge i x.vals.length with q | q
    · rcases List.mem_or_eq_of_mem_set hl with h1 | h1
      · exact .inl h1
      · exact .inr ⟨h1, q⟩
    · rw [List.set_eq_of_length_le q] at hl; exact .inl hl
  refine ⟨by show 0 < (x.vals.set i _).length; simpa using h.pos, by show (x.vals.set i _).length ≤ 4096; simpa using h.big, fun l hl => ?_, fun l hl s hs => ?_, h.5, h.6⟩
  · rcases hmem l hl with h1 | ⟨h1, _⟩
    · exact h.each l h1
    · subst h1; exact ⟨by simp, by rw [List.length_append, List.length_singleton]; omega⟩
  · rcases hmem l hl with h1 | ⟨h1, hlt⟩
    · exact h.sect l h1 s hs
    · subst h1
      rcases List.mem_append.1 hs with h2 | h2
      · refine h.sect _ (List.getElem_mem hlt) s ?_
        simpa [List.getD_eq_getElem?_getD, hlt] using h2
      · simp at h2; subst h2; exact hb
theorem put_sure {x : D} (h : x.Ok) (i : Nat) (b : Sect) : (x.put i b).sure = x.sure := by
  have e : (x.put i b).vals.map (fun l => l.headD []) = x.vals.map fun l => l.headD [] := by
    apply List.ext_getElem?
    intro j
    show ((x.vals.set i _).map _)[j]? = _
    rw [List.getElem?_map, List.getElem?_map]
    by_cases hij : i = j
    · subst hij
      rcases Nat.lt_or_ge i x.vals.length with q | q
      · have h1 := (h.each _ (List.getElem_mem q)).1
        simp only [List.getElem?_set_self q, List.getD_eq_getElem?_getD, List.getElem?_eq_getElem q, Option.getD_some, Option.map_some]
        cases hv : x.vals[i] with
        | nil => exact absurd hv h1
        | cons s l => rfl
      · rw [List.set_eq_of_length_le q]
    · rw [List.getElem?_set_ne hij]
  rw [D.sure_eq, D.sure_eq, e]
theorem Write_calls {w0 w : World} {d : Nat} {x : D} {sh : List Fe} {F : HP} (hsh : RO w0 F sh) (H : Sat w0 w [DISK d x sh, F]) (at_ : Int) {a : Option Addr} {n cap : Nat} {bs : List UInt8}
    (hR : ∀ w', Sat w0 w' [F] → Rd w' a n cap 1 (bys bs)) (hc : ∀ l ∈ x.vals, l.length < 4611686018427387904) :
    Calls Try.prog 12 #[dp d, .int .i64 at_, .slice a n cap] w (Ret fun v w' => v = .int .i64 (x.write at_ bs).1 ∧ Sat w0 w' [DISK d (x.write at_ bs).2 sh, F]) := by
  have hn : n = bs.length := by
    have := (hR w (H.drop 0)).1
    rw [bys_length] at this; omega
  refine calls_of Try.func12 rfl rfl ?_
  refine WP_r rfl ?_
  refine s_val rfl (x_assign (by conv => lhs; whnf)) ?_
  refine s_end ?_
  refine WP_r rfl ?_
  refine s_val rfl (x_move (by conv => lhs; whnf)) ?_
  refine s_val rfl (x_move (by conv => lhs; whnf)) ?_
  refine s_call rfl (by kernel_rfl) (look_calls (H.holdD (i := 0) rfl (j := 1) rfl hsh) at_) rfl rfl ?_
  rintro v w1 ⟨rfl, e1⟩
  replace H := H.heapEq e1
  clear e1
  refine s_val rfl (x_assign (by conv => lhs; whnf)) ?_
  refine s_end ?_
  refine WP_seq ?_
  refine WP_block ?_
  refine WP_r rfl ?_
  refine s_val rfl (x_move (by conv => lhs; whnf)) ?_
  refine s_val rfl (x_neq (a := x.lookE at_) (b := 0) rfl rfl) ?_
  refine s_val rfl (x_assign (by conv => lhs; whnf)) ?_
  refine s_end ?_
  refine WP_cond_dec rfl (fun h1 => ?_) (fun h1 => ?_)
  · skip
    refine WP_r rfl ?_
    refine s_val rfl (x_move (by conv => lhs; whnf)) ?_
    refine s_val rfl (x_assign (by conv => lhs; whnf)) ?_
    refine s_end ?_
    refine WP_ret ?_
    refine blockQ_r ?_
    refine thenQ_r ?_
    refine retQ_1 rfl (by conv => lhs; whnf) ?_
    have hl : at_ < 0 ∨ (x.vals.length : Int) ≤ at_ := by
      unfold D.lookE at h1
      split at h1
      · assumption
      · exact absurd rfl h1
    unfold D.write D.lookE; rw [if_pos hl, if_pos hl]
    exact ⟨rfl, H⟩
  · skip
    have hl : ¬ (at_ < 0 ∨ (x.vals.length : Int) ≤ at_) := by
      intro q
      unfold D.lookE at h1
      rw [if_pos q] at h1
      exact h1 (by decide)
    refine WP_r rfl ?_
    refine s_val rfl (x_move (by conv => lhs; whnf)) ?_
    refine s_val rfl (x_lenS (by kernel_rfl) rfl) ?_
    refine s_val rfl (x_neq rfl rfl) ?_
    refine s_val rfl (x_assign (by conv => lhs; whnf)) ?_
    refine s_end ?_
    refine WP_cond_dec rfl (fun h2 => ?_) (fun h2 => ?_)
    · skip
      refine WP_r rfl ?_
      refine s_val rfl (x_assign (by conv => lhs; whnf)) ?_
      refine s_end ?_
      refine WP_ret ?_
      refine blockQ_r ?_
      refine thenQ_r ?_
      refine retQ_1 rfl (by conv => lhs; whnf) ?_
      unfold D.write; rw [if_neg hl, if_pos (by omega)]
      exact ⟨rfl, H⟩
    · skip
      refine WP_r rfl ?_
      refine s_val rfl (x_move (by conv => lhs; whnf)) ?_
      refine s_call rfl (by kernel_rfl) (take_calls H) rfl rfl ?_
      clear H
      rintro v w2 ⟨rfl, H⟩
      refine s_val rfl (x_not rfl) ?_
      refine s_val rfl (x_assign (by conv => lhs; whnf)) ?_
      refine s_end ?_
      refine WP_cond rfl (fun h3 => ?_) (fun h3 => ?_)
      · skip
        refine WP_r rfl ?_
        refine s_val rfl (x_assign (by conv => lhs; whnf)) ?_
        refine s_end ?_
        refine WP_ret ?_
        refine blockQ_r ?_
        refine thenQ_r ?_
        refine retQ_1 rfl (by conv => lhs; whnf) ?_
        have ht : x.take.1 = false := by simpa using h3
        unfold D.write; rw [if_neg hl, if_neg (by omega), if_pos ht]
        exact ⟨rfl, H⟩
      · skip
        refine WP_skip ?_
        refine blockQ_n ?_
        refine thenQ_n ?_
        have ht : x.take.1 = true := by simpa using h3
        obtain ⟨i, rfl⟩ : ∃ i : Nat, at_ = i := ⟨at_.toNat, by omega⟩
        obtain ⟨a1, cap1, fb, mb, mm, ff, fo, hok, hM, hF, hfo, H⟩ := DISK.openL H
        have hv := take_vals x
        have hil : i < x.take.2.vals.length := by rw [hv]; omega
        obtain ⟨l, hli⟩ : ∃ l, x.take.2.vals[i]? = some l := ⟨_, List.getElem?_eq_getElem hil⟩
        have hlne := (hok.each l (List.mem_of_getElem? hli)).1
        have hlc : l.length < 4611686018427387904 := hc l (by rw [← hv]; exact List.mem_of_getElem? hli)
        simp only [dlist, List.cons_append, List.nil_append] at H
        have HM := H.mapW (i := 2) rfl
        have hlk := many_look hM HM.nodup hli hlne
        refine WP_r rfl ?_
        refine s_val rfl (x_move (by conv => lhs; whnf)) ?_
        refine s_val rfl (x_nilCheck rfl) ?_
        refine s_val rfl (x_field (off := 2) (by kernel_rfl) rfl) ?_
        refine s_val rfl (x_load (by kernel_rfl) rfl (by first | exact H.cell (i := 0) rfl rfl | exact hI.1 | exact hI.2.1)) ?_
        refine s_val rfl (x_move (by conv => lhs; whnf)) ?_
        refine s_val rfl (x_lookupV (show Try.prog.underlying 47 = some (.map 3 3) by kernel_rfl) keyT_many (show ZeroT Try.prog 3 (.int .i64 0) by unfold ZeroT; kernel_rfl) hlk rfl (k := (i : Int)) rfl HM) ?_
        refine s_val rfl (x_addi rfl rfl (by omega)) ?_
        refine s_mapUpdate rfl (show Try.prog.underlying 47 = some (.map 3 3) by kernel_rfl) keyT_many rfl (k := (i : Int)) rfl (by conv => lhs; whnf) H (i := 2) rfl ?_
        clear H HM
        intro w3 H
        simp only [List.set_cons_zero, List.set_cons_succ] at H
        refine s_end ?_
        have HM := H.mapW (i := 2) rfl
        have c1 := H.cell (i := 0) (off := 1) rfl rfl
        have c2 := H.cell (i := 0) (off := 2) rfl rfl
        have hlk2 : (lk (pt mm (i : Int) (.int .i64 (((l.length - 1 : Nat) : Int) + 1))) (i : Int)).getD (.int .i64 0) = .int .i64 (((l.length - 1 : Nat) : Int) + 1) := by
          rw [lk_mem HM.nodup ((pt_mem _ _ _ _).2 (.inl ⟨rfl, rfl⟩))]; rfl
        refine WP_rd (fun w => w.cell? ⟨d, 1, none⟩ = some (.map (some fb)) ∧ w.cell? ⟨d, 2, none⟩ = some (.map (some mb)) ∧ MapAt w intF mb (pt mm (i : Int) (.int .i64 (((l.length - 1 : Nat) : Int) + 1)))) (.float 0 (.float 1 (.float 2 (.float 3 (.float 4 (.float 5 (.float 6 (.float 7 (.float 8 (.float 9 (.float 10 (.float 11 (.float 12 (.fork [(13, .fork [(14, .done)])])))))))))))))) (by kernel_rfl) (by kernel_rfl) ⟨c1, c2, HM⟩ ?_
        replace H := H.heapEq (w' := { w3 with drawn := w3.drawn + 1 }) rfl
        have HRb := hR _ ((H.drop 0).drop 0 |>.drop 0 |>.drop 0 |>.drop 0)
        refine r_val rfl rfl (fun w hI => x_move (by conv => lhs; whnf)) ?_
        refine r_val rfl rfl (fun w hI => x_nilCheck rfl) ?_
        refine r_val rfl rfl (fun w hI => x_field (off := 1) (by kernel_rfl) rfl) ?_
        refine r_val rfl rfl (fun w hI => x_load (by kernel_rfl) rfl (by first | exact H.cell (i := 0) rfl rfl | exact hI.1 | exact hI.2.1)) ?_
        refine r_val rfl rfl (fun w hI => x_move (by conv => lhs; whnf)) ?_
        refine r_val rfl rfl (fun w hI => x_move (by conv => lhs; whnf)) ?_
        refine r_val rfl rfl (fun w hI => x_nilCheck rfl) ?_
        refine r_val rfl rfl (fun w hI => x_field (off := 2) (by kernel_rfl) rfl) ?_
        refine r_val rfl rfl (fun w hI => x_load (by kernel_rfl) rfl (by first | exact H.cell (i := 0) rfl rfl | exact hI.1 | exact hI.2.1)) ?_
        refine r_val rfl rfl (fun w hI => x_move (by conv => lhs; whnf)) ?_
        refine r_val rfl rfl (fun w hI => x_lookupV (show Try.prog.underlying 47 = some (.map 3 3) by kernel_rfl) keyT_many (show ZeroT Try.prog 3 (.int .i64 0) by unfold ZeroT; kernel_rfl) hlk2 rfl (k := (i : Int)) rfl hI.2.2) ?_
        refine r_val rfl rfl (fun w hI => x_build (show StT Try.prog 66 #[.int .i64 0, .int .i64 0] #[(0, 1), (1, 1)] from ⟨by kernel_rfl, by kernel_rfl⟩) rfl (show _ = some [_, _] from rfl)) ?_
        refine r_val rfl rfl (fun w hI => x_move (by conv => lhs; whnf)) ?_
        refine r_one rfl ?_
        refine s_call rfl (by kernel_rfl) (CloneB_calls HRb (by omega)) rfl rfl ?_
        rintro v w4 ⟨a3, cap3, rfl, H3⟩
        replace H := H.more H3
        simp only [List.cons_append, List.nil_append] at H
        refine s_end ?_
        refine ⟨⟨H.cell (i := 0) (off := 1) rfl rfl, H.cell (i := 0) (off := 2) rfl rfl, H.mapW (i := 2) rfl⟩, ?_⟩
        refine r_one rfl ?_
        refine s_mapUpdate rfl (show Try.prog.underlying 46 = some (.map 66 37) by kernel_rfl) keyT_spot rfl (k := ((i : Int), ((l.length - 1 : Nat) : Int) + 1)) rfl (by conv => lhs; whnf) H (i := 3) rfl ?_
        have HF := H.mapW (i := 3) rfl
        clear H
        intro w5 H
        simp only [List.set_cons_zero, List.set_cons_succ] at H
        refine s_end ?_
        refine ⟨⟨H.cell (i := 0) (off := 1) rfl rfl, H.cell (i := 0) (off := 2) rfl rfl, H.mapW (i := 2) rfl⟩, ?_⟩
        refine r_done ?_
        refine WP_r rfl ?_
        refine s_val rfl (x_assign (by conv => lhs; whnf)) ?_
        refine s_end ?_
        refine WP_ret ?_
        refine retQ_1 rfl (by conv => lhs; whnf) ?_
        have hbl : bs.length = 256 := by omega
        have hcl : (x.take.2.vals.getD i []).length < 4611686018427387904 := by simpa [List.getD_eq_getElem?_getD, hli] using hlc
        unfold D.write; rw [if_neg hl, if_neg (by omega), if_neg (by rw [ht]; decide)]
        refine ⟨rfl, ?_⟩
        have e0 : ((i : Int)).toNat = i := by omega
        rw [e0]
        have hpt : pt (ff.map Fe.pair) ((i : Int), ((l.length - 1 : Nat) : Int) + 1) (.slice a3 n cap3) = (ff ++ [(⟨i, ((l.length - 1 : Nat) : Int) + 1, a3, cap3, bs⟩ : Fe)]).map Fe.pair := by
          unfold pt
          rw [if_neg, List.map_append]
          · rw [hn, hbl]; rfl
          · rw [lk_none]
            · simp
            · intro v hv
              obtain ⟨e, he, hev⟩ := List.mem_map.1 hv
              obtain ⟨i', j, l', h5, h6, h7, h8, h9⟩ := (hF _ _ e.bs).1 ⟨e, he, (congrArg Prod.fst hev), rfl⟩
              have : i = i' := by omega
              subst this
              rw [hli] at h5; injection h5 with h5; subst h5
              have := (List.getElem?_eq_some_iff.1 h7).1
              omega
        rw [hpt] at H
        have H6 : Sat w0 _ ([_, _, _, _, stars (fo.map Fe.own), F] ++ [slo 5 1 a3 n cap3 (bys bs)]) := H
        have H7 := H6.absorb (i := 4) rfl
        refine DISK.closeL (put_ok hok hbl hcl) (put_many hM hli hlne bs) (put_fresh hF hli hlne bs a3 cap3) (fun e he => ?_) (cap := cap1) (fo := fo ++ [⟨i, ((l.length - 1 : Nat) : Int) + 1, a3, cap3, bs⟩]) (a := a1) (fb := fb) (mb := mb) ?_
        · rcases List.mem_append.1 he with he | he
          · rcases hfo e he with h | h
            · exact .inl (List.mem_append_left _ h)
            · exact .inr h
          · exact .inl (List.mem_append_right _ he)
        unfold dlist
        rw [put_sure hok, List.map_append (f := Fe.own)]
        have e1 : (x.take.2.put i bs).vals.length = x.take.2.vals.length := by show (x.take.2.vals.set i _).length = _; simp
        rw [e1]
        have e2 : n = 256 := by omega
        subst e2
        exact H7
end Go.Sl
