/- The document's own disk: Read, Pending, Image, Sure. -/
import Derived.Test.YthalgkfafoehkaaRef2
namespace Go.Sl
open Go.Proofs

/-- What its memory reads as. -/
structure RefRd (w : World) (y : Nat) (x : D) (va : Option Addr) (vc : Nat) (rows : List Rw) : Prop where
  ok : x.Ok
  vals : rows.map (fun r => r.es.map Fe.bs) = x.vals
  c0 : w.cell? ⟨y, 0, none⟩ = some (.slice va x.vals.length vc)
  c1 : w.cell? ⟨y, 1, none⟩ = some (.int .i64 x.left)
  c2 : w.cell? ⟨y, 2, none⟩ = some (.bool x.off)
  c3 : w.cell? ⟨y, 3, none⟩ = some (.int .i64 x.taken)
  rv : Rd w va x.vals.length vc 1 (rows.map Rw.val)
  rr : ∀ r ∈ rows, Rd w r.a r.es.length r.cap 1 (r.es.map Fe.sl)
  re : ∀ r ∈ rows, ∀ e ∈ r.es, Rd w e.a 256 e.cap 1 (bys e.bs)
theorem REF.read {w0 w : World} {y : Nat} {x : D} {L : List HP} {i : Nat} (H : Sat w0 w L) (hi : L[i]? = some (REF y x)) : ∃ va vc rows, RefRd w y x va vc rows := by
  obtain ⟨va, vc, rows, pool, hok, hv, hp, H⟩ := REF.openL (H.only hi)
  simp only [rlist, List.cons_append, List.nil_append] at H
  exact ⟨va, vc, rows, hok, hv, H.cell (i := 0) rfl rfl, H.cell (i := 0) rfl rfl, H.cell (i := 0) rfl rfl, H.cell (i := 0) rfl rfl, H.rd (i := 1) rfl, fun r hr => H.rdRow (i := 2) rfl hr, fun r hr e he => H.rdOwn (i := 3) rfl (hp r hr e he)⟩
theorem RefRd.ext {w w' : World} {y : Nat} {x : D} {va : Option Addr} {vc : Nat} {rows : List Rw} (h : RefRd w y x va vc rows) (e : Ext w w') : RefRd w' y x va vc rows :=
  ⟨h.ok, h.vals, e.cell h.c0, e.cell h.c1, e.cell h.c2, e.cell h.c3, h.rv.ext e, fun r hr => (h.rr r hr).ext e, fun r hr q hq => (h.re r hr q hq).ext e⟩
theorem RefRd.row {w : World} {y : Nat} {x : D} {va : Option Addr} {vc : Nat} {rows : List Rw} (h : RefRd w y x va vc rows) {i : Nat} (hi : i < x.vals.length) :
    ∃ r, r ∈ rows ∧ (∀ j, j = i → (rows.map Rw.val)[j]? = some r.val) ∧ x.vals[i]? = some (r.es.map Fe.bs) ∧ 0 < r.es.length := by
  obtain ⟨r, h1, h2⟩ := rows_at h.vals hi
  refine ⟨r, List.mem_of_getElem? h1, fun j hj => by subst hj; rw [List.getElem?_map, h1]; rfl, h2, ?_⟩
  have := (h.ok.each _ (List.mem_of_getElem? h2)).1
  cases he : r.es with
  | nil => rw [he] at this; exact absurd rfl this
  | cons e es => simp
theorem rRead_calls {w : World} {y : Nat} {x : D} {va : Option Addr} {vc : Nat} {rows : List Rw} (R : RefRd w y x va vc rows) (at_ : Int) :
    Calls Try.prog 29 #[dp y, .int .i64 at_] w (Ret fun v w' => ∃ a n cap, v = .tuple #[.slice a n cap, .int .i64 (x.read at_).1] ∧ Sat w w' [slo 5 1 a n cap (bys (x.read at_).2)]) := by
  have c0 := R.c0
  have c2 := R.c2
  have hbig := R.ok.big
  refine calls_of Try.func29 rfl rfl ?_
  refine WP_r rfl ?_
  refine s_val rfl (x_assign (by conv => lhs; whnf)) ?_
  refine s_val rfl (x_assign (by conv => lhs; whnf)) ?_
  refine s_end ?_
  refine WP_seq ?_
  refine WP_r rfl ?_
  refine s_val rfl (x_move (by conv => lhs; whnf)) ?_
  refine s_val rfl (x_lss rfl rfl) ?_
  refine s_dec rfl (x_move rfl) (fun h1 => ?_) (fun h1 => ?_)
  · skip
    refine s_out rfl ?_
    refine s_out rfl ?_
    refine s_out rfl ?_
    refine s_out rfl ?_
    refine s_out rfl ?_
    refine s_out rfl ?_
    refine s_out rfl ?_
    refine s_val rfl (x_pick_true rfl (by conv => lhs; whnf)) ?_
    refine s_end ?_
    refine WP_cond_true rfl ?_
    refine WP_r rfl ?_
    refine s_val rfl (x_assign (by conv => lhs; whnf)) ?_
    refine s_val rfl (x_assign (by conv => lhs; whnf)) ?_
    refine s_end ?_
    refine WP_ret ?_
    refine thenQ_r ?_
    refine retQ_2 rfl (by conv => lhs; whnf) (by conv => lhs; whnf) ?_
    have hl : at_ < 0 ∨ (x.vals.length : Int) ≤ at_ := by omega
    refine ⟨none, 0, 0, ?_, ?_⟩
    · unfold D.read; rw [if_pos hl]
    · unfold D.read; rw [if_pos hl]; exact (Sat.nil (Ext.refl w)).addNil _ _
  · skip
    refine s_val rfl (x_move (by conv => lhs; whnf)) ?_
    refine s_val rfl (x_move (by conv => lhs; whnf)) ?_
    refine s_val rfl (x_nilCheck rfl) ?_
    refine s_val rfl (x_field (off := 0) (by kernel_rfl) rfl) ?_
    refine s_val rfl (x_load (by kernel_rfl) rfl (by first | exact c0 | exact c2)) ?_
    refine s_val rfl (x_lenS (by kernel_rfl) rfl) ?_
    refine s_val rfl (x_geq rfl rfl) ?_
    refine s_val rfl (x_pick_false rfl (by conv => lhs; whnf)) ?_
    refine s_end ?_
    refine WP_cond_dec rfl (fun h2 => ?_) (fun h2 => ?_)
    · skip
      refine WP_r rfl ?_
      refine s_val rfl (x_assign (by conv => lhs; whnf)) ?_
      refine s_val rfl (x_assign (by conv => lhs; whnf)) ?_
      refine s_end ?_
      refine WP_ret ?_
      refine thenQ_r ?_
      refine retQ_2 rfl (by conv => lhs; whnf) (by conv => lhs; whnf) ?_
      have hl : at_ < 0 ∨ (x.vals.length : Int) ≤ at_ := by omega
      refine ⟨none, 0, 0, ?_, ?_⟩
      · unfold D.read; rw [if_pos hl]
      · unfold D.read; rw [if_pos hl]; exact (Sat.nil (Ext.refl w)).addNil _ _
    · skip
      refine WP_skip ?_
      refine thenQ_n ?_
      refine WP_seq ?_
      refine WP_r rfl ?_
      refine s_val rfl (x_move (by conv => lhs; whnf)) ?_
      refine s_val rfl (x_nilCheck rfl) ?_
      refine s_val rfl (x_field (off := 2) (by kernel_rfl) rfl) ?_
      refine s_val rfl (x_load (by kernel_rfl) rfl (by first | exact c0 | exact c2)) ?_
      refine s_end ?_
      refine WP_cond rfl (fun h3 => ?_) (fun h3 => ?_)
      · skip
        refine WP_r rfl ?_
        refine s_val rfl (x_assign (by conv => lhs; whnf)) ?_
        refine s_val rfl (x_assign (by conv => lhs; whnf)) ?_
        refine s_end ?_
        refine WP_ret ?_
        refine thenQ_r ?_
        refine retQ_2 rfl (by conv => lhs; whnf) (by conv => lhs; whnf) ?_
        have hl : ¬ (at_ < 0 ∨ (x.vals.length : Int) ≤ at_) := by omega
        refine ⟨none, 0, 0, ?_, ?_⟩
        · unfold D.read; rw [if_neg hl, if_pos h3]
        · unfold D.read; rw [if_neg hl, if_pos h3]; exact (Sat.nil (Ext.refl w)).addNil _ _
      · skip
        refine WP_skip ?_
        refine thenQ_n ?_
        have hl : ¬ (at_ < 0 ∨ (x.vals.length : Int) ≤ at_) := by omega
        obtain ⟨i, rfl⟩ : ∃ i : Nat, at_ = i := ⟨at_.toNat, by omega⟩
        obtain ⟨r, hr, hel, hvi, hpos⟩ := R.row (i := i) (by omega)
        have hle : r.es.length ≤ 4611686018427387904 := by
          have := (R.ok.each _ (List.mem_of_getElem? hvi)).2
          rwa [List.length_map] at this
        obtain ⟨e, he⟩ : ∃ e, r.es[r.es.length - 1]? = some e := ⟨_, List.getElem?_eq_getElem (by omega)⟩
        have hel2 : ∀ j, j = r.es.length - 1 → (r.es.map Fe.sl)[j]? = some e.sl := fun j hj => by subst hj; rw [List.getElem?_map, he]; rfl
        have hlat : x.latest i = e.bs := by
          unfold D.latest
          rw [List.getD_eq_getElem?_getD, hvi, Option.getD_some, List.getLastD_eq_getLast?, List.getLast?_eq_getElem?, List.length_map, List.getElem?_map, he]; rfl
        refine WP_r rfl ?_
        refine s_val rfl (x_move (by conv => lhs; whnf)) ?_
        refine s_val rfl (x_nilCheck rfl) ?_
        refine s_val rfl (x_field (off := 0) (by kernel_rfl) rfl) ?_
        refine s_val rfl (x_load (by kernel_rfl) rfl (by first | exact c0 | exact c2)) ?_
        refine s_val rfl (x_move (by conv => lhs; whnf)) ?_
        refine s_val rfl (x_index (show SlT Try.prog 59 72 1 24 from ⟨by kernel_rfl, by kernel_rfl⟩) rfl rfl (by omega) (by omega) R.rv) ?_
        refine s_val rfl (x_loadR (by kernel_rfl) rfl R.rv (hel _ (by omega))) ?_
        refine s_val rfl (x_assign (by conv => lhs; whnf)) ?_
        refine s_end ?_
        refine WP_r rfl ?_
        refine s_val rfl (x_move (by conv => lhs; whnf)) ?_
        refine s_val rfl (x_move (by conv => lhs; whnf)) ?_
        refine s_val rfl (x_lenS (by kernel_rfl) rfl) ?_
        refine s_val rfl (x_subi rfl rfl (by omega)) ?_
        refine s_val rfl (x_index (show SlT Try.prog 72 37 1 24 from ⟨by kernel_rfl, by kernel_rfl⟩) rfl rfl (by omega) (by omega) (R.rr r hr)) ?_
        refine s_val rfl (x_loadR (by kernel_rfl) rfl (R.rr r hr) (hel2 _ (by omega))) ?_
        refine s_call rfl (by kernel_rfl) (rsector_calls (R.re r hr e (List.mem_of_getElem? he)) (by omega)) rfl rfl ?_
        rintro v w7 ⟨a7, cap7, rfl, H7⟩
        refine s_val rfl (x_assign (by conv => lhs; whnf)) ?_
        refine s_val rfl (x_assign (by conv => lhs; whnf)) ?_
        refine s_end ?_
        refine WP_ret ?_
        refine retQ_2 rfl (by conv => lhs; whnf) (by conv => lhs; whnf) ?_
        refine ⟨a7, 256, cap7, ?_, ?_⟩
        · unfold D.read; rw [if_neg hl, if_neg (by rw [h3]; decide)]
        · unfold D.read; rw [if_neg hl, if_neg (by rw [h3]; decide)]
          show Sat _ _ [slo _ _ _ _ _ (bys (x.latest ((i : Int)).toNat))]
          rw [Int.toNat_natCast, hlat]; exact H7
def pendOf (v : List (List Sect)) : Nat := (v.filter fun l => decide (1 < l.length)).length
theorem pend_step {v : List (List Sect)} {k : Nat} {l : List Sect} (h : v[k]? = some l) : pendOf (v.take (k + 1)) = pendOf (v.take k) + if 1 < l.length then 1 else 0 := by
  unfold pendOf
  rw [take_snoc _ _ h, List.filter_append, List.length_append]
  by_cases hl : 1 < l.length
  · rw [if_pos hl, List.filter_cons_of_pos (by simpa using hl)]; rfl
  · rw [if_neg hl, List.filter_cons_of_neg (by simpa using hl)]; rfl
theorem pend_le (v : List (List Sect)) : pendOf v ≤ v.length := List.length_filter_le _ _
theorem rPending_calls {w : World} {y : Nat} {x : D} {va : Option Addr} {vc : Nat} {rows : List Rw} (R : RefRd w y x va vc rows) :
    Calls Try.prog 33 #[dp y] w (Ret fun v w' => v = .int .i64 x.pend ∧ w' = w) := by
  have c0 := R.c0
  have hbig := R.ok.big
  refine calls_of Try.func33 rfl rfl ?_
  refine WP_r rfl ?_
  refine s_val rfl (x_assign (by conv => lhs; whnf)) ?_
  refine s_end ?_
  refine WP_r rfl ?_
  refine s_val rfl (x_assign (by conv => lhs; whnf)) ?_
  refine s_end ?_
  refine WP_seq ?_
  refine WP_r rfl ?_
  refine s_val rfl (x_assign (by conv => lhs; whnf)) ?_
  refine s_end ?_
  refine WP_block ?_
  refine WP_loopA (α := Nat) (fun k => [(0, dp y), (3, .int .i64 (pendOf (x.vals.take k) : Nat)), (4, .int .i64 k)]) (fun k w' => k ≤ x.vals.length ∧ w' = w) (fun k => x.vals.length - k) 0 ⟨rfl, rfl, rfl, trivial⟩ ⟨Nat.zero_le _, rfl⟩ ?_
  rintro k ρ w' ⟨hk, rfl⟩
  have hpk := pend_le (x.vals.take k)
  rw [List.length_take] at hpk
  refine WP_seq ?_
  refine WP_r rfl ?_
  refine s_val rfl (x_move (by conv => lhs; whnf)) ?_
  refine s_val rfl (x_move (by conv => lhs; whnf)) ?_
  refine s_val rfl (x_nilCheck rfl) ?_
  refine s_val rfl (x_field (off := 0) (by kernel_rfl) rfl) ?_
  refine s_val rfl (x_load (by kernel_rfl) rfl c0) ?_
  refine s_val rfl (x_lenS (by kernel_rfl) rfl) ?_
  refine s_val rfl (x_lss rfl rfl) ?_
  refine s_end ?_
  refine WP_cond_dec rfl (fun h1 => ?_) (fun h1 => ?_)
  · skip
    refine WP_skip ?_
    refine thenQ_n ?_
    refine WP_seq ?_
    refine WP_block ?_
    have hkl : k < x.vals.length := by omega
    obtain ⟨r, hr, hel, hvi, hpos⟩ := R.row hkl
    have hps := pend_step hvi
    rw [List.length_map] at hps
    refine WP_r rfl ?_
    refine s_val rfl (x_move (by conv => lhs; whnf)) ?_
    refine s_val rfl (x_nilCheck rfl) ?_
    refine s_val rfl (x_field (off := 0) (by kernel_rfl) rfl) ?_
    refine s_val rfl (x_load (by kernel_rfl) rfl c0) ?_
    refine s_val rfl (x_move (by conv => lhs; whnf)) ?_
    refine s_val rfl (x_index (show SlT Try.prog 59 72 1 24 from ⟨by kernel_rfl, by kernel_rfl⟩) rfl rfl (by omega) (by omega) R.rv) ?_
    refine s_val rfl (x_loadR (by kernel_rfl) rfl R.rv (hel _ (by omega))) ?_
    refine s_val rfl (x_lenS (by kernel_rfl) rfl) ?_
    refine s_val rfl (x_gtr rfl rfl) ?_
    refine s_end ?_
    refine WP_cond_dec rfl (fun h2 => ?_) (fun h2 => ?_)
    · skip
      refine WP_region rfl ?_
      refine s_val rfl (x_move (by conv => lhs; whnf)) ?_
      refine s_val rfl (x_addi rfl rfl (by omega)) ?_
      refine s_val rfl (x_assign (by conv => lhs; whnf)) ?_
      refine s_end ?_
      refine blockQ_n ?_
      refine thenQ_n ?_
      refine WP_region rfl ?_
      refine s_val rfl (x_move (by conv => lhs; whnf)) ?_
      refine s_val rfl (x_addi rfl rfl (by omega)) ?_
      refine s_val rfl (x_assign (by conv => lhs; whnf)) ?_
      refine s_end ?_
      first
        | exact loopQ_A (k + 1) (by omega) ⟨rfl, by rw [hps, if_pos (by omega)]; rfl, rfl, trivial⟩ ⟨by omega, rfl⟩
        | exact loopQ_A (k + 1) (by omega) ⟨rfl, by rw [hps, if_neg (by omega)]; rfl, rfl, trivial⟩ ⟨by omega, rfl⟩
    · skip
      refine WP_skip ?_
      refine blockQ_n ?_
      refine thenQ_n ?_
      refine WP_region rfl ?_
      refine s_val rfl (x_move (by conv => lhs; whnf)) ?_
      refine s_val rfl (x_addi rfl rfl (by omega)) ?_
      refine s_val rfl (x_assign (by conv => lhs; whnf)) ?_
      refine s_end ?_
      first
        | exact loopQ_A (k + 1) (by omega) ⟨rfl, by rw [hps, if_pos (by omega)]; rfl, rfl, trivial⟩ ⟨by omega, rfl⟩
        | exact loopQ_A (k + 1) (by omega) ⟨rfl, by rw [hps, if_neg (by omega)]; rfl, rfl, trivial⟩ ⟨by omega, rfl⟩
  · skip
    refine WP_exit ?_
    refine thenQ_e ?_
    refine loopQ_e ?_
    refine blockQ_hit ?_
    refine thenQ_n ?_
    refine WP_r rfl ?_
    refine s_val rfl (x_move (by conv => lhs; whnf)) ?_
    refine s_val rfl (x_assign (by conv => lhs; whnf)) ?_
    refine s_end ?_
    refine WP_ret ?_
    refine retQ_1 rfl (by conv => lhs; whnf) ?_
    have e : k = x.vals.length := by omega
    subst e
    exact ⟨by rw [List.take_length]; rfl, rfl⟩
def flatOf (f : List Sect → Sect) (v : List (List Sect)) : List UInt8 := (v.map f).flatten
theorem flatOf_step {f : List Sect → Sect} {v : List (List Sect)} {k : Nat} {l : List Sect} (h : v[k]? = some l) : flatOf f (v.take (k + 1)) = flatOf f (v.take k) ++ f l := by
  unfold flatOf
  rw [take_snoc _ _ h, List.map_append, List.flatten_append]; simp
theorem rSure_calls {w : World} {y : Nat} {x : D} {va : Option Addr} {vc : Nat} {rows : List Rw} (R : RefRd w y x va vc rows) :
    Calls Try.prog 35 #[dp y] w (Ret fun v w' => ∃ a cap, v = .slice a (256 * x.vals.length) cap ∧ Sat w w' [slo 5 1 a (256 * x.vals.length) cap (bys x.sure)]) := by
  have hbig := R.ok.big
  have H := Sat.nil (Ext.refl w)
  refine calls_of Try.func35 rfl rfl ?_
  refine WP_r rfl ?_
  refine s_val rfl (x_assign (by conv => lhs; whnf)) ?_
  refine s_end ?_
  refine WP_r rfl ?_
  refine s_buildSlice (vs := []) rfl (show SlT Try.prog 37 5 1 1 from ⟨by kernel_rfl, by kernel_rfl⟩) zByte rfl rfl (by simp) (by decide) H ?_
  clear H
  intro b w1 H
  simp only [List.nil_append, List.flatMap_nil] at H
  refine s_val rfl (x_assign (by conv => lhs; whnf)) ?_
  refine s_end ?_
  refine WP_seq ?_
  refine WP_r rfl ?_
  refine s_val rfl (x_assign (by conv => lhs; whnf)) ?_
  refine s_end ?_
  refine WP_block ?_
  refine WP_loopA (α := Nat × Option Addr × Nat) (fun p => [(0, dp y), (3, .slice p.2.1 (256 * p.1) p.2.2), (4, .int .i64 p.1)]) (fun p w' => p.1 ≤ x.vals.length ∧ Sat w w' [slo 5 1 p.2.1 (256 * p.1) p.2.2 (bys (flatOf (fun l => l.headD []) (x.vals.take p.1)))]) (fun p => x.vals.length - p.1) (0, some ⟨b, 0, none⟩, 0) ⟨rfl, rfl, rfl, trivial⟩ ⟨Nat.zero_le _, H⟩ ?_
  clear H
  rintro ⟨k, a, cap⟩ ρ w' ⟨hk, H⟩
  simp only at hk H
  have R' := R.ext H.ext
  have c0 := R'.c0
  refine WP_seq ?_
  refine WP_r rfl ?_
  refine s_val rfl (x_move (by conv => lhs; whnf)) ?_
  refine s_val rfl (x_move (by conv => lhs; whnf)) ?_
  refine s_val rfl (x_nilCheck rfl) ?_
  refine s_val rfl (x_field (off := 0) (by kernel_rfl) rfl) ?_
  refine s_val rfl (x_load (by kernel_rfl) rfl c0) ?_
  refine s_val rfl (x_lenS (by kernel_rfl) rfl) ?_
  refine s_val rfl (x_lss rfl rfl) ?_
  refine s_end ?_
  refine WP_cond_dec rfl (fun h1 => ?_) (fun h1 => ?_)
  · skip
    refine WP_skip ?_
    refine thenQ_n ?_
    refine WP_seq ?_
    refine WP_block ?_
    have hkl : k < x.vals.length := by omega
    obtain ⟨r, hr, hel, hvi, hpos⟩ := R.row hkl
    obtain ⟨e, he⟩ : ∃ e, r.es[0]? = some e := ⟨_, List.getElem?_eq_getElem hpos⟩
    have hel2 : ∀ j, j = 0 → (r.es.map Fe.sl)[j]? = some e.sl := fun j hj => by subst hj; rw [List.getElem?_map, he]; rfl
    have hle : r.es.length ≤ 4611686018427387904 := by
      have := (R.ok.each _ (List.mem_of_getElem? hvi)).2
      rwa [List.length_map] at this
    have hfs := flatOf_step (f := fun l => l.headD []) hvi
    have hhd : (r.es.map Fe.bs).headD [] = e.bs := by
      cases hes : r.es with
      | nil => rw [hes] at he; simp at he
      | cons q es => rw [hes] at he; simp at he; subst he; rfl
    rw [hhd] at hfs
    refine WP_region rfl ?_
    refine s_val rfl (x_move (by conv => lhs; whnf)) ?_
    refine s_val rfl (x_move (by conv => lhs; whnf)) ?_
    refine s_val rfl (x_nilCheck rfl) ?_
    refine s_val rfl (x_field (off := 0) (by kernel_rfl) rfl) ?_
    refine s_val rfl (x_load (by kernel_rfl) rfl c0) ?_
    refine s_val rfl (x_move (by conv => lhs; whnf)) ?_
    refine s_val rfl (x_index (show SlT Try.prog 59 72 1 24 from ⟨by kernel_rfl, by kernel_rfl⟩) rfl rfl (by omega) (by omega) R'.rv) ?_
    refine s_val rfl (x_loadR (by kernel_rfl) rfl R'.rv (hel _ (by omega))) ?_
    refine s_val rfl (x_index (show SlT Try.prog 72 37 1 24 from ⟨by kernel_rfl, by kernel_rfl⟩) rfl rfl (by omega) (by omega) (R'.rr r hr)) ?_
    refine s_val rfl (x_loadR (by kernel_rfl) rfl (R'.rr r hr) (hel2 _ (by omega))) ?_
    refine s_append rfl (show SlT Try.prog 37 5 1 1 from ⟨by kernel_rfl, by kernel_rfl⟩) zByte ⟨_, (show SlT Try.prog 37 5 1 1 from ⟨by kernel_rfl, by kernel_rfl⟩).und⟩ rfl rfl H (i := 0) rfl (R'.re r hr e (List.mem_of_getElem? he)) (bys_oneCell _) (by omega) (by omega) ?_
    clear H
    intro a2 cap2 w2 H
    simp only [List.set_cons_zero] at H
    refine s_val rfl (x_assign (by conv => lhs; whnf)) ?_
    refine s_end ?_
    refine blockQ_n ?_
    refine thenQ_n ?_
    refine WP_region rfl ?_
    refine s_val rfl (x_move (by conv => lhs; whnf)) ?_
    refine s_val rfl (x_addi rfl rfl (by omega)) ?_
    refine s_val rfl (x_assign (by conv => lhs; whnf)) ?_
    refine s_end ?_
    refine loopQ_A (k + 1, a2, cap2) (by show x.vals.length - (k + 1) < x.vals.length - k; omega) ⟨rfl, rfl, rfl, trivial⟩ ⟨by show k + 1 ≤ _; omega, ?_⟩
    show Sat _ _ [slo _ _ a2 (256 * (k + 1)) cap2 (bys (flatOf _ (x.vals.take (k + 1))))]
    rw [hfs]
    unfold bys at H ⊢
    rw [List.map_append]; exact H
  · skip
    refine WP_exit ?_
    refine thenQ_e ?_
    refine loopQ_e ?_
    refine blockQ_hit ?_
    refine thenQ_n ?_
    refine WP_r rfl ?_
    refine s_val rfl (x_move (by conv => lhs; whnf)) ?_
    refine s_val rfl (x_assign (by conv => lhs; whnf)) ?_
    refine s_end ?_
    refine WP_ret ?_
    refine retQ_1 rfl (by conv => lhs; whnf) ?_
    have e : k = x.vals.length := by omega
    subst e
    rw [List.take_length] at H
    refine ⟨a, cap, rfl, ?_⟩
    rw [D.sure_eq]; exact H
end Go.Sl
