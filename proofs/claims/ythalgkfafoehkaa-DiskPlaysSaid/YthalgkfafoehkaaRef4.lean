/- The document's own disk: Image, Sync. -/
import Derived.Test.YthalgkfafoehkaaRef3
namespace Go.Sl
open Go.Proofs

theorem lastD_get {r : Rw} {e : Fe} (he : r.es[r.es.length - 1]? = some e) : (r.es.map Fe.bs).getLastD [] = e.bs := by
  rw [List.getLastD_eq_getLast?, List.getLast?_eq_getElem?, List.length_map, List.getElem?_map, he]; rfl
theorem rImage_calls {w : World} {y : Nat} {x : D} {va : Option Addr} {vc : Nat} {rows : List Rw} (R : RefRd w y x va vc rows) :
    Calls Try.prog 34 #[dp y] w (Ret fun v w' => ∃ a cap, v = .slice a (256 * x.vals.length) cap ∧ Sat w w' [slo 5 1 a (256 * x.vals.length) cap (bys x.image)]) := by
  have hbig := R.ok.big
  have H := Sat.nil (Ext.refl w)
  refine calls_of Try.func34 rfl rfl ?_
  refine WP_r rfl ?_
  refine s_val rfl (x_assign (by conv => lhs; whnf)) ?_
  refine s_end ?_
  refine WP_r rfl ?_
  refine s_buildSlice (vs := []) rfl (show SlT Try.prog 37 5 1 1 from ⟨by kernel_rfl, by kernel_rfl⟩) zByte rfl rfl (by simp) (by decide) H ?_
  clear H
  intro b w1 H
  simp only [List.nil_append, List.flatMap_nil] at H
  refine s_val rfl (x_assign (by conv => lhs; whnf)) ?_
  refine s_end ?_
  refine WP_seq ?_
  refine WP_r rfl ?_
  refine s_val rfl (x_assign (by conv => lhs; whnf)) ?_
  refine s_end ?_
  refine WP_block ?_
  refine WP_loopA (α := Nat × Option Addr × Nat) (fun p => [(0, dp y), (3, .slice p.2.1 (256 * p.1) p.2.2), (4, .int .i64 p.1)]) (fun p w' => p.1 ≤ x.vals.length ∧ Sat w w' [slo 5 1 p.2.1 (256 * p.1) p.2.2 (bys (flatOf (fun l => l.getLastD []) (x.vals.take p.1)))]) (fun p => x.vals.length - p.1) (0, some ⟨b, 0, none⟩, 0) ⟨rfl, rfl, rfl, trivial⟩ ⟨Nat.zero_le _, H⟩ ?_
  clear H
  rintro ⟨k, a, cap⟩ ρ w' ⟨hk, H⟩
  simp only at hk H
  have R' := R.ext H.ext
  have c0 := R'.c0
  refine WP_seq ?_
  refine WP_r rfl ?_
  refine s_val rfl (x_move (by conv => lhs; whnf)) ?_
  refine s_val rfl (x_move (by conv => lhs; whnf)) ?_
  refine s_val rfl (x_nilCheck rfl) ?_
  refine s_val rfl (x_field (off := 0) (by kernel_rfl) rfl) ?_
  refine s_val rfl (x_load (by kernel_rfl) rfl c0) ?_
  refine s_val rfl (x_lenS (by kernel_rfl) rfl) ?_
  refine s_val rfl (x_lss rfl rfl) ?_
  refine s_end ?_
  refine WP_cond_dec rfl (fun h1 => ?_) (fun h1 => ?_)
  · skip
    refine WP_skip ?_
    refine thenQ_n ?_
    refine WP_seq ?_
    refine WP_block ?_
    have hkl : k < x.vals.length := by omega
    obtain ⟨r, hr, hel, hvi, hpos⟩ := R.row hkl
    obtain ⟨e, he⟩ : ∃ e, r.es[r.es.length - 1]? = some e := ⟨_, List.getElem?_eq_getElem (by omega)⟩
    have hel2 : ∀ j, j = r.es.length - 1 → (r.es.map Fe.sl)[j]? = some e.sl := fun j hj => by subst hj; rw [List.getElem?_map, he]; rfl
    have hle : r.es.length ≤ 4611686018427387904 := by
      have := (R.ok.each _ (List.mem_of_getElem? hvi)).2
      rwa [List.length_map] at this
    have hfs := flatOf_step (f := fun l => l.getLastD []) hvi
    rw [lastD_get he] at hfs
    refine WP_r rfl ?_
    refine s_val rfl (x_move (by conv => lhs; whnf)) ?_
    refine s_val rfl (x_nilCheck rfl) ?_
    refine s_val rfl (x_field (off := 0) (by kernel_rfl) rfl) ?_
    refine s_val rfl (x_load (by kernel_rfl) rfl c0) ?_
    refine s_val rfl (x_move (by conv => lhs; whnf)) ?_
    refine s_val rfl (x_index (show SlT Try.prog 59 72 1 24 from ⟨by kernel_rfl, by kernel_rfl⟩) rfl rfl (by omega) (by omega) R'.rv) ?_
    refine s_val rfl (x_loadR (by kernel_rfl) rfl R'.rv (hel _ (by omega))) ?_
    refine s_val rfl (x_assign (by conv => lhs; whnf)) ?_
    refine s_end ?_
    refine WP_region rfl ?_
    refine s_val rfl (x_move (by conv => lhs; whnf)) ?_
    refine s_val rfl (x_move (by conv => lhs; whnf)) ?_
    refine s_val rfl (x_move (by conv => lhs; whnf)) ?_
    refine s_val rfl (x_lenS (by kernel_rfl) rfl) ?_
    refine s_val rfl (x_subi rfl rfl (by omega)) ?_
    refine s_val rfl (x_index (show SlT Try.prog 72 37 1 24 from ⟨by kernel_rfl, by kernel_rfl⟩) rfl rfl (by omega) (by omega) (R'.rr r hr)) ?_
    refine s_val rfl (x_loadR (by kernel_rfl) rfl (R'.rr r hr) (hel2 _ (by omega))) ?_
    refine s_append rfl (show SlT Try.prog 37 5 1 1 from ⟨by kernel_rfl, by kernel_rfl⟩) zByte ⟨_, (show SlT Try.prog 37 5 1 1 from ⟨by kernel_rfl, by kernel_rfl⟩).und⟩ rfl rfl H (i := 0) rfl (R'.re r hr e (List.mem_of_getElem? he)) (bys_oneCell _) (by omega) (by omega) ?_
    clear H
    intro a2 cap2 w2 H
    simp only [List.set_cons_zero] at H
    refine s_val rfl (x_assign (by conv => lhs; whnf)) ?_
    refine s_end ?_
    refine blockQ_n ?_
    refine thenQ_n ?_
    refine WP_region rfl ?_
    refine s_val rfl (x_move (by conv => lhs; whnf)) ?_
    refine s_val rfl (x_addi rfl rfl (by omega)) ?_
    refine s_val rfl (x_assign (by conv => lhs; whnf)) ?_
    refine s_end ?_
    refine loopQ_A (k + 1, a2, cap2) (by show x.vals.length - (k + 1) < x.vals.length - k; omega) ⟨rfl, rfl, rfl, trivial⟩ ⟨by show k + 1 ≤ _; omega, ?_⟩
    show Sat _ _ [slo _ _ a2 (256 * (k + 1)) cap2 (bys (flatOf _ (x.vals.take (k + 1))))]
    rw [hfs]
    unfold bys at H ⊢
    rw [List.map_append]; exact H
  · skip
    refine WP_exit ?_
    refine thenQ_e ?_
    refine loopQ_e ?_
    refine blockQ_hit ?_
    refine thenQ_n ?_
    refine WP_r rfl ?_
    refine s_val rfl (x_move (by conv => lhs; whnf)) ?_
    refine s_val rfl (x_assign (by conv => lhs; whnf)) ?_
    refine s_end ?_
    refine WP_ret ?_
    refine retQ_1 rfl (by conv => lhs; whnf) ?_
    have e : k = x.vals.length := by omega
    subst e
    rw [List.take_length] at H
    exact ⟨a, cap, rfl, H⟩
/-- Sectors are settled one by one: what the first k are, is given. -/
def mixV (f : Nat → List Sect → List Sect) (v : List (List Sect)) (k : Nat) : List (List Sect) := (v.take k).mapIdx f ++ v.drop k
theorem mixV_get (f : Nat → List Sect → List Sect) (v : List (List Sect)) (k i : Nat) : (mixV f v k)[i]? = if i < k then (v[i]?).map (f i) else v[i]? := by
  unfold mixV
  by_cases hk : k ≤ v.length
  · by_cases h : i < k
    · rw [if_pos h, List.getElem?_append_left (by simp; omega), List.getElem?_mapIdx, List.getElem?_take_of_lt h]
    · rw [if_neg h, List.getElem?_append_right (by simp; omega), List.length_mapIdx, List.length_take, Nat.min_eq_left hk, List.getElem?_drop, show k + (i - k) = i by omega]
  · rw [List.take_of_length_le (by omega), List.drop_of_length_le (by omega), List.append_nil, List.getElem?_mapIdx]
    by_cases h : i < k
    · rw [if_pos h]
    · rw [if_neg h, List.getElem?_eq_none (by omega)]; rfl
theorem mixV_len (f : Nat → List Sect → List Sect) (v : List (List Sect)) (k : Nat) : (mixV f v k).length = v.length := by
  unfold mixV
  rw [List.length_append, List.length_mapIdx, List.length_take, List.length_drop]; omega
theorem mixV_step (f : Nat → List Sect → List Sect) {v : List (List Sect)} {k : Nat} {l : List Sect} (h : v[k]? = some l) : (mixV f v k).set k (f k l) = mixV f v (k + 1) := by
  have hk := (List.getElem?_eq_some_iff.1 h).1
  apply List.ext_getElem?
  intro i
  by_cases hik : k = i
  · subst hik
    rw [List.getElem?_set_self (by rw [mixV_len]; exact hk), mixV_get, if_pos (by omega), h]; rfl
  · rw [List.getElem?_set_ne hik, mixV_get, mixV_get]
    by_cases h1 : i < k
    · rw [if_pos h1, if_pos (by omega)]
    · rw [if_neg h1, if_neg (by omega)]
theorem mixV_keep (f : Nat → List Sect → List Sect) {v : List (List Sect)} {k : Nat} {l : List Sect} (h : v[k]? = some l) (hf : f k l = l) : mixV f v k = mixV f v (k + 1) := by
  rw [← mixV_step f h, hf]
  apply List.ext_getElem?
  intro i
  by_cases hik : k = i
  · subst hik
    rw [List.getElem?_set_self (by rw [mixV_len]; exact (List.getElem?_eq_some_iff.1 h).1), mixV_get, if_neg (by omega), h]
  · rw [List.getElem?_set_ne hik]
theorem mixV_all (f : Nat → List Sect → List Sect) (v : List (List Sect)) : mixV f v v.length = v.mapIdx f := by
  unfold mixV
  rw [List.take_length, List.drop_length, List.append_nil]
def D.mix (x : D) (f : Nat → List Sect → List Sect) (k : Nat) : D := { x with vals := mixV f x.vals k }
/-- One of the sector's values. -/
def OneOf (f : Nat → List Sect → List Sect) (v : List (List Sect)) : Prop := ∀ i l, v[i]? = some l → f i l = l ∨ ∃ b ∈ l, f i l = [b]
theorem mix_ok {x : D} (h : x.Ok) {f : Nat → List Sect → List Sect} (hf : OneOf f x.vals) (k : Nat) : (x.mix f k).Ok := by
  have key : ∀ l ∈ mixV f x.vals k, (l ≠ [] ∧ l.length ≤ 4611686018427387904) ∧ ∀ s ∈ l, s.length = 256 := fun l hl => by
    obtain ⟨i, hi⟩ := List.mem_iff_getElem?.1 hl
    rw [mixV_get] at hi
    split at hi
    · cases hv : x.vals[i]? with
      | none => rw [hv] at hi; cases hi
      | some u =>
        rw [hv] at hi
        simp only [Option.map_some, Option.some.injEq] at hi
        have hu := List.mem_of_getElem? hv
        rcases hf i u hv with e | ⟨b, hb, e⟩
        · rw [← hi, e]; exact ⟨h.each u hu, h.sect u hu⟩
        · rw [← hi, e]; exact ⟨⟨by simp, by simp⟩, fun s hs => by simp at hs; subst hs; exact h.sect u hu _ hb⟩
    · have hu := List.mem_of_getElem? hi
      exact ⟨h.each l hu, h.sect l hu⟩
  exact ⟨by show 0 < (mixV _ _ _).length; rw [mixV_len]; exact h.pos, by show (mixV _ _ _).length ≤ _; rw [mixV_len]; exact h.big, fun l hl => (key l hl).1, fun l hl => (key l hl).2, h.5, h.6⟩
/-- A row is replaced by a new one that holds one of its values. -/
theorem REF.putRow {w0 w : World} {y : Nat} {x : D} {F : HP} {va : Option Addr} {vc i : Nat} {rows : List Rw} {pool : List Fe} {r : Rw} {e : Fe} {b : Nat} {v : List (List Sect)} (hok : D.Ok { x with vals := v }) (hv : rows.map (fun r => r.es.map Fe.bs) = x.vals) (hp : ∀ r ∈ rows, ∀ e ∈ r.es, e ∈ pool)
    (hr : rows[i]? = some r) (he : e ∈ r.es) (hset : x.vals.set i [e.bs] = v)
    (H : Sat w0 w [blk y (.cells #[.slice va x.vals.length vc, .int .i64 x.left, .bool x.off, .int .i64 x.taken] 61 (0, 0)), slo 72 1 va x.vals.length vc ((rows.map Rw.val).set i (.slice (some ⟨b, 0, none⟩) 1 1)), stars (rows.map Rw.own), stars (pool.map Fe.own), F,
      slo 37 1 (some ⟨b, 0, none⟩) 1 1 [e.sl]]) : Sat w0 w [REF y { x with vals := v }, F] := by
  obtain ⟨q, hq⟩ : ∃ q : Rw, q = Rw.mk (some ⟨b, 0, none⟩) 1 [e] := ⟨_, rfl⟩
  have hri : (rows.map Rw.own)[i]? = some r.own := by rw [List.getElem?_map, hr]; rfl
  have H2 := Sat.swapIn (L := [_, _, stars (rows.map Rw.own), _, _]) (i := 2) (k := i) (q := q.own) (by rw [hq]; exact H) rfl hri
  simp only [List.set_cons_zero, List.set_cons_succ] at H2
  have hrows : (rows.set i q).map (fun r => r.es.map Fe.bs) = v := by
    rw [List.map_set, hv, ← hset, hq]; rfl
  have hpool : ∀ r' ∈ rows.set i q, ∀ e' ∈ r'.es, e' ∈ pool := fun r' hr' e' he' => by
    rcases List.mem_or_eq_of_mem_set hr' with h | h
    · exact hp r' h e' he'
    · rw [h, hq] at he'
      simp at he'; subst he'
      exact hp r (List.mem_of_getElem? hr) _ he
  refine REF.closeL (x := { x with vals := v }) hok hrows hpool (va := va) (vc := vc) ?_
  unfold rlist
  have hl : v.length = x.vals.length := by rw [← hset, List.length_set]
  have hsl : (rows.map Rw.val).set i (.slice (some ⟨b, 0, none⟩) 1 1) = (rows.set i q).map Rw.val := by rw [List.map_set, hq]; rfl
  rw [show (D.mk v x.left x.off x.taken).vals.length = x.vals.length from hl, ← hsl, List.map_set (f := Rw.own)]
  exact H2
end Go.Sl
