/- The disk: a sector's value, copies of bytes, reading. -/
import Derived.Test.YthalgkfafoehkaaDisk2
namespace Go.Sl
open Go.Proofs

theorem bys_oneCell (l : List UInt8) : ∀ u ∈ bys l, u.oneCell' = true := by
  intro u hu
  obtain ⟨b, _, rfl⟩ := List.mem_map.1 hu
  rfl
theorem chunk {α : Type _} (k : Nat) : ∀ (l : List (List α)), (∀ v ∈ l, v.length = k) → ∀ (i : Nat) (u : List α), l[i]? = some u → (l.flatten.drop (i * k)).take k = u := by
  intro l
  induction l with
  | nil => intro _ i u h; simp at h
  | cons v l ih =>
    intro hl i u h
    have hv := hl v (List.mem_cons_self ..)
    cases i with
    | zero =>
      simp at h; subst h
      rw [List.flatten_cons, Nat.zero_mul, List.drop_zero, ← hv, List.take_left]
    | succ i =>
      rw [List.flatten_cons, Nat.succ_mul, Nat.add_comm, ← hv, List.drop_append, List.drop_eq_nil_of_le (by omega), List.nil_append, show v.length + i * v.length - v.length = i * v.length by omega, hv]
      exact ih (fun x hx => hl x (List.mem_cons_of_mem _ hx)) i u (by simpa using h)
theorem D.sure_eq (x : D) : x.sure = (x.vals.map fun l => l.headD []).flatten := by
  unfold D.sure
  rw [List.flatMap_def]
theorem D.sure_at {x : D} (h : x.Ok) {i : Nat} {l : List Sect} (hi : x.vals[i]? = some l) : (x.sure.drop (i * 256)).take 256 = l.headD [] := by
  rw [D.sure_eq]
  refine chunk 256 _ (fun v hv => ?_) i _ (by simp [hi])
  obtain ⟨u, hu, rfl⟩ := List.mem_map.1 hv
  have h1 := h.each u hu
  have h2 := h.sect u hu
  cases u with
  | nil => exact absurd rfl h1.1
  | cons s u => exact h2 s (List.mem_cons_self ..)
theorem bys_drop (l : List UInt8) (n : Nat) : (bys l).drop n = bys (l.drop n) := by simp [bys]
theorem bys_take (l : List UInt8) (n : Nat) : (bys l).take n = bys (l.take n) := by simp [bys]
theorem lk_mem {κ : Type} [DecidableEq κ] {m : List (κ × Value)} (hn : (m.map (·.1)).Nodup) {k : κ} {v : Value} (h : (k, v) ∈ m) : lk m k = some v := by
  unfold lk
  induction m with
  | nil => cases h
  | cons p m ih =>
    rw [List.map_cons, List.nodup_cons] at hn
    rcases List.mem_cons.1 h with rfl | h
    · simp
    · have hne : ¬ p.1 = k := fun e => hn.1 (List.mem_map.2 ⟨(k, v), h, e.symm⟩)
      rw [List.find?_cons_of_neg (by simpa using hne)]
      exact ih hn.2 h
theorem lk_none {κ : Type} [DecidableEq κ] {m : List (κ × Value)} {k : κ} (h : ∀ v, (k, v) ∉ m) : lk m k = none := by
  unfold lk
  rw [Option.map_eq_none_iff, List.find?_eq_none]
  intro p hp
  simp only [decide_eq_true_eq]
  intro e
  exact h p.2 (by rw [← e]; exact hp)
theorem MapAt.nodup {κ : Type} {w : World} {kf : κ → Value} {b : Nat} {m : List (κ × Value)} (h : MapAt w kf b m) : (m.map (·.1)).Nodup := by
  obtain ⟨_, _, _, hm⟩ := h; exact hm.nodup
theorem keyT_many : KeyT Try.prog 3 intF := keyT_int (by kernel_rfl)
theorem keyT_spot : KeyT Try.prog 66 pairF := keyT_pair (f1 := ((match Try.prog.underlying 66 with | some (.struct fs) => fs | _ => #[]).getD 0 default)) (f2 := ((match Try.prog.underlying 66 with | some (.struct fs) => fs | _ => #[]).getD 1 default))
  ⟨by kernel_rfl, by kernel_rfl, by kernel_rfl, by kernel_rfl, by kernel_rfl, by kernel_rfl, by kernel_rfl, by kernel_rfl⟩
/-- A sector's sure value: a piece of the sure bytes. -/
theorem value0_calls {w : World} {d n i cap : Nat} {a : Option Addr} {S : List UInt8} (c0 : w.cell? ⟨d, 0, none⟩ = some (.slice a (256 * n) cap)) (HR : Rd w a (256 * n) cap 1 (bys S)) (hi : i < n) (hb : n ≤ 4096) :
    Calls Try.prog 44 #[dp d, .int .i64 i, .int .i64 (0 : Nat)] w (Ret fun v w' => ∃ a cap, v = .slice a 256 cap ∧ Rd w' a 256 cap 1 (bys ((S.drop (i * 256)).take 256)) ∧ core w' = core w) := by
  refine calls_of Try.func44 rfl rfl ?_
  refine WP_r rfl ?_
  refine s_val rfl (x_assign (by conv => lhs; whnf)) ?_
  refine s_end ?_
  refine WP_seq ?_
  refine WP_r rfl ?_
  refine s_val rfl (x_move (by conv => lhs; whnf)) ?_
  refine s_val rfl (x_eql rfl rfl) ?_
  refine s_end ?_
  refine WP_cond_true rfl ?_
  refine WP_r rfl ?_
  refine s_val rfl (x_move (by conv => lhs; whnf)) ?_
  refine s_val rfl (x_nilCheck rfl) ?_
  refine s_val rfl (x_field (off := 0) (by kernel_rfl) rfl) ?_
  refine s_val rfl (x_load (by kernel_rfl) rfl (by first | assumption | exact H.cell (i := 0) rfl rfl | exact H.cell (i := 1) rfl rfl | exact H.cell (i := 2) rfl rfl | exact H.cell (i := 3) rfl rfl | exact H.cell (i := 4) rfl rfl | exact H.cell (i := 5) rfl rfl)) ?_
  refine s_val rfl (x_move (by conv => lhs; whnf)) ?_
  refine s_val rfl (x_muli rfl rfl (by omega)) ?_
  refine s_val rfl (x_move (by conv => lhs; whnf)) ?_
  refine s_val rfl (x_addi rfl rfl (by omega)) ?_
  refine s_val rfl (x_muli rfl rfl (by omega)) ?_
  refine s_val rfl (x_slice (show SlT Try.prog 37 5 1 1 from ⟨by kernel_rfl, by kernel_rfl⟩) rfl rfl rfl (by omega) (by omega) (by omega) HR.2.1) ?_
  refine s_val rfl (x_assign (by conv => lhs; whnf)) ?_
  refine s_end ?_
  refine WP_ret ?_
  refine thenQ_r ?_
  refine retQ_1 rfl (by conv => lhs; whnf) ?_
  have hs := cutAt_sub (lo := i * 256) (hi := i * 256 + 256) HR (by omega) (by omega)
  have hsub := HR.sub (k := i * 256) (n' := 256) (cap' := cap - i * 256) (by simpa using hs) (by omega) (by have := HR.2.1; omega)
  refine ⟨cutAt a cap (i * 256) 1, cap - i * 256, ?_, ?_, rfl⟩
  · rw [show ((i : Int) * 256).toNat = i * 256 by omega, show (((i : Int) + 1) * 256).toNat - i * 256 = 256 by omega]
  · simp only [bys_drop, Nat.mul_one, bys_take] at hsub
    exact hsub
/-- A value that was written. -/
theorem valueN_calls {w : World} {d fb i j : Nat} {ff : List Fe} {e : Fe} (c1 : w.cell? ⟨d, 1, none⟩ = some (.map (some fb))) (HM : MapAt w pairF fb (ff.map Fe.pair)) (he : e ∈ ff) (hk : e.key = ((i : Int), (j : Int))) (hj : 1 ≤ j)
    (hr : Rd w e.a 256 e.cap 1 (bys e.bs)) : Calls Try.prog 44 #[dp d, .int .i64 i, .int .i64 j] w (Ret fun v w' => ∃ a cap, v = .slice a 256 cap ∧ Rd w' a 256 cap 1 (bys e.bs) ∧ core w' = core w) := by
  have hlk : (lk (ff.map Fe.pair) ((i : Int), (j : Int))).getD (.slice none 0 0) = .slice e.a 256 e.cap := by
    rw [lk_mem HM.nodup (List.mem_map.2 ⟨e, he, by rw [← hk]; rfl⟩)]; rfl
  refine calls_of Try.func44 rfl rfl ?_
  refine WP_r rfl ?_
  refine s_val rfl (x_assign (by conv => lhs; whnf)) ?_
  refine s_end ?_
  refine WP_seq ?_
  refine WP_r rfl ?_
  refine s_val rfl (x_move (by conv => lhs; whnf)) ?_
  refine s_val rfl (x_eql rfl rfl) ?_
  refine s_end ?_
  refine WP_cond_dec rfl (fun h1 => ?_) (fun h1 => ?_)
  · exact absurd h1 (by omega) --done
  · skip
    refine WP_skip ?_
    refine thenQ_n ?_
    refine WP_r rfl ?_
    refine s_val rfl (x_move (by conv => lhs; whnf)) ?_
    refine s_val rfl (x_nilCheck rfl) ?_
    refine s_val rfl (x_field (off := 1) (by kernel_rfl) rfl) ?_
    refine s_val rfl (x_load (by kernel_rfl) rfl (by first | assumption | exact H.cell (i := 0) rfl rfl | exact H.cell (i := 1) rfl rfl | exact H.cell (i := 2) rfl rfl | exact H.cell (i := 3) rfl rfl | exact H.cell (i := 4) rfl rfl | exact H.cell (i := 5) rfl rfl)) ?_
    refine s_val rfl (x_move (by conv => lhs; whnf)) ?_
    refine s_val rfl (x_move (by conv => lhs; whnf)) ?_
    refine s_val rfl (x_build (show StT Try.prog 66 #[.int .i64 0, .int .i64 0] #[(0, 1), (1, 1)] from ⟨by kernel_rfl, by kernel_rfl⟩) rfl (show _ = some [_, _] from rfl)) ?_
    refine s_val rfl (x_lookupV (show Try.prog.underlying 46 = some (.map 66 37) by kernel_rfl) keyT_spot (show ZeroT Try.prog 37 (.slice none 0 0) by unfold ZeroT; kernel_rfl) hlk rfl (k := ((i : Int), (j : Int))) rfl HM) ?_
    refine s_val rfl (x_assign (by conv => lhs; whnf)) ?_
    refine s_end ?_
    refine WP_ret ?_
    refine retQ_1 rfl (by conv => lhs; whnf) ?_
    exact ⟨e.a, e.cap, rfl, hr, rfl⟩
/-- One of a sector's values: a slice that reads as it. -/
theorem value_calls {w : World} {d : Nat} {x : D} (h : HoldD w d x) {i j : Nat} {l : List Sect} {bs : Sect} (hi : x.vals[i]? = some l) (hj : l[j]? = some bs) :
    Calls Try.prog 44 #[dp d, .int .i64 i, .int .i64 j] w (Ret fun v w' => ∃ a cap, v = .slice a 256 cap ∧ Rd w' a 256 cap 1 (bys bs) ∧ core w' = core w) := by
  obtain ⟨a, cap, fb, mb, mm, ff, R⟩ := DISK.read h
  have hil : i < x.vals.length := (List.getElem?_eq_some_iff.1 hi).1
  rcases Nat.eq_zero_or_pos j with q | q
  · subst q
    have hl : l.headD [] = bs := by cases l with | nil => simp at hj | cons s l => simpa using hj
    have := value0_calls R.c0 R.sure hil R.ok.big
    rw [D.sure_at R.ok hi, hl] at this
    exact this
  · obtain ⟨e, he, hk, hbs⟩ := (R.fresh i j bs).2 ⟨i, j, l, hi, q, hj, rfl, rfl⟩
    have := valueN_calls R.c1 R.mapF he hk q (R.rds e he)
    rw [hbs] at this
    exact this
theorem zByte : ∃ z, ZeroT Try.prog 5 z ∧ z.cells.size = 1 := ⟨.int .u8 0, by unfold ZeroT; kernel_rfl, rfl⟩
/-- slices.Clone of bytes. -/
theorem CloneB_calls {w : World} {a : Option Addr} {n cap : Nat} {bs : List UInt8} (HR : Rd w a n cap 1 (bys bs)) (hn : n ≤ 140737488355328) :
    Calls Try.prog 37 #[.slice a n cap] w (Ret fun v w' => ∃ a' cap', v = .slice a' n cap' ∧ Sat w w' [slo 5 1 a' n cap' (bys bs)]) := by
  refine calls_of Try.func37 rfl rfl ?_
  refine WP_r rfl ?_
  refine s_val rfl (x_assign (by conv => lhs; whnf)) ?_
  refine s_end ?_
  refine WP_seq ?_
  refine WP_r rfl ?_
  refine s_val rfl (x_move (by conv => lhs; whnf)) ?_
  refine s_val rfl (x_eqlSlNil (by kernel_rfl) rfl) ?_
  refine s_end ?_
  refine WP_cond rfl (fun h1 => ?_) (fun h1 => ?_)
  · skip
    refine WP_r rfl ?_
    refine s_val rfl (x_assign (by conv => lhs; whnf)) ?_
    refine s_end ?_
    refine WP_ret ?_
    refine thenQ_r ?_
    refine retQ_1 rfl (by conv => lhs; whnf) ?_
    have ha : a = none := by simpa using h1
    have h0 : n = 0 := by
      rcases Nat.eq_zero_or_pos n with q | q
      · exact q
      · obtain ⟨b, off, hb, _⟩ := HR.2.2 q
        rw [ha] at hb; cases hb
    have hbs : bs = [] := by
      have := HR.1
      rw [bys_length, h0] at this
      exact List.length_eq_zero_iff.1 (by omega)
    subst h0 hbs
    exact ⟨none, 0, rfl, (Sat.nil (Ext.refl w)).addNil _ _⟩
  · skip
    refine WP_skip ?_
    refine thenQ_n ?_
    refine WP_r rfl ?_
    refine s_buildSlice (vs := []) rfl (show SlT Try.prog 37 5 1 1 from ⟨by kernel_rfl, by kernel_rfl⟩) zByte rfl rfl (by simp) (by decide) (Sat.nil (Ext.refl w)) ?_
    intro b w1 H
    simp only [List.nil_append, List.flatMap_nil] at H
    refine s_val rfl (x_move (by conv => lhs; whnf)) ?_
    refine s_append rfl (show SlT Try.prog 37 5 1 1 from ⟨by kernel_rfl, by kernel_rfl⟩) zByte ⟨_, (show SlT Try.prog 37 5 1 1 from ⟨by kernel_rfl, by kernel_rfl⟩).und⟩ rfl rfl H (i := 0) rfl (HR.ext H.ext) (bys_oneCell _) (by omega) (by omega) ?_
    intro a' cap' w2 H2
    simp only [List.set_cons_zero, List.nil_append, Nat.zero_add] at H2
    rw [Nat.zero_add]
    refine s_val rfl (x_assign (by conv => lhs; whnf)) ?_
    refine s_end ?_
    refine WP_ret ?_
    refine retQ_1 rfl (by conv => lhs; whnf) ?_
    exact ⟨a', cap', rfl, H2⟩
/-- A sector's latest value. -/
def D.latest (x : D) (i : Nat) : Sect := (x.vals.getD i []).getLastD []
def D.read (x : D) (at_ : Int) : Int × List UInt8 := if at_ < 0 ∨ (x.vals.length : Int) ≤ at_ then (2, []) else if x.off = true then (10, []) else (0, x.latest at_.toNat)
theorem D.latest_at {x : D} (h : x.Ok) {i : Nat} (hi : i < x.vals.length) : ∃ l, x.vals[i]? = some l ∧ l[l.length - 1]? = some (x.latest i) ∧ (x.latest i).length = 256 := by
  have hl : x.vals[i]? = some x.vals[i] := by simp [hi]
  have h1 := h.each _ (List.getElem_mem hi)
  have h3 : x.latest i = x.vals[i].getLastD [] := by unfold D.latest; simp [List.getD_eq_getElem?_getD, hl]
  have h2 : x.vals[i][x.vals[i].length - 1]? = some (x.latest i) := by
    rw [h3, ← List.getLast?_eq_getElem?, List.getLastD_eq_getLast?]
    cases hq : x.vals[i].getLast? with
    | none => exact absurd (List.getLast?_eq_none_iff.1 hq) h1.1
    | some u => rfl
  exact ⟨_, hl, h2, h.sect _ (List.getElem_mem hi) _ (List.mem_of_getElem? h2)⟩
theorem many_look {x : D} {mm : List (Int × Value)} (hM : Many x mm) (hn : (mm.map (·.1)).Nodup) {i : Nat} {l : List Sect} (hi : x.vals[i]? = some l) (hl : l ≠ []) :
    (lk mm (i : Int)).getD (.int .i64 0) = .int .i64 ((l.length - 1 : Nat) : Int) := by
  by_cases h1 : 1 < l.length
  · rw [lk_mem hn ((hM _ _).2 ⟨i, l, hi, h1, rfl, rfl⟩)]; rfl
  · have : l.length = 1 := by
      have : l.length ≠ 0 := fun e => hl (List.length_eq_zero_iff.1 e)
      omega
    rw [lk_none fun v hv => ?_, this]
    · rfl
    · obtain ⟨i', l', h2, h3, h4, _⟩ := (hM _ _).1 hv
      have : i = i' := by omega
      subst this
      rw [hi] at h2; injection h2 with h2; subst h2; omega
theorem Read_calls {w : World} {d : Nat} {x : D} (h : HoldD w d x) (at_ : Int) : Calls Try.prog 16 #[dp d, .int .i64 at_] w (Ret fun v w' =>
    ∃ a n cap, v = .tuple #[.slice a n cap, .int .i64 (x.read at_).1] ∧ Sat w w' [slo 5 1 a n cap (bys (x.read at_).2)]) := by
  have ⟨a, cap, fb, mb, mm, ff, R⟩ := DISK.read h
  have c4 := R.c4
  have c2 := R.c2
  have HM := R.mapM
  have hb := R.ok.big
  refine calls_of Try.func16 rfl rfl ?_
  refine WP_r rfl ?_
  refine s_val rfl (x_assign (by conv => lhs; whnf)) ?_
  refine s_val rfl (x_assign (by conv => lhs; whnf)) ?_
  refine s_end ?_
  refine WP_r rfl ?_
  refine s_val rfl (x_move (by conv => lhs; whnf)) ?_
  refine s_val rfl (x_move (by conv => lhs; whnf)) ?_
  refine s_call rfl (by kernel_rfl) (look_calls h at_) rfl rfl ?_
  rintro v w1 ⟨rfl, e1⟩
  replace c4 := cell_heapEq e1 c4
  replace c2 := cell_heapEq e1 c2
  replace HM := HM.heapEq e1
  replace h := h.heapEq e1
  have hx := (Sat.nil (Ext.refl w)).heapEq e1
  clear R
  refine s_val rfl (x_assign (by conv => lhs; whnf)) ?_
  refine s_end ?_
  refine WP_seq ?_
  refine WP_block ?_
  refine WP_r rfl ?_
  refine s_val rfl (x_move (by conv => lhs; whnf)) ?_
  refine s_val rfl (x_neq (a := x.lookE at_) (b := 0) rfl rfl) ?_
  refine s_val rfl (x_assign (by conv => lhs; whnf)) ?_
  refine s_end ?_
  refine WP_cond_dec rfl (fun h1 => ?_) (fun h1 => ?_)
  · skip
    refine WP_r rfl ?_
    refine s_val rfl (x_move (by conv => lhs; whnf)) ?_
    refine s_val rfl (x_assign (by conv => lhs; whnf)) ?_
    refine s_val rfl (x_assign (by conv => lhs; whnf)) ?_
    refine s_end ?_
    refine WP_ret ?_
    refine blockQ_r ?_
    refine thenQ_r ?_
    refine retQ_2 rfl (by conv => lhs; whnf) (by conv => lhs; whnf) ?_
    have hl : at_ < 0 ∨ (x.vals.length : Int) ≤ at_ := by
      unfold D.lookE at h1
      split at h1
      · assumption
      · exact absurd rfl h1
    refine ⟨none, 0, 0, ?_, ?_⟩
    · unfold D.read D.lookE; rw [if_pos hl, if_pos hl]
    · unfold D.read; rw [if_pos hl]; exact hx.addNil _ _
  · skip
    have hl : ¬ (at_ < 0 ∨ (x.vals.length : Int) ≤ at_) := by
      intro q
      unfold D.lookE at h1
      rw [if_pos q] at h1
      exact h1 (by decide)
    refine WP_r rfl ?_
    refine s_val rfl (x_move (by conv => lhs; whnf)) ?_
    refine s_val rfl (x_nilCheck rfl) ?_
    refine s_val rfl (x_field (off := 4) (by kernel_rfl) rfl) ?_
    refine s_val rfl (x_load (by kernel_rfl) rfl (by first | assumption | exact H.cell (i := 0) rfl rfl | exact H.cell (i := 1) rfl rfl | exact H.cell (i := 2) rfl rfl | exact H.cell (i := 3) rfl rfl | exact H.cell (i := 4) rfl rfl | exact H.cell (i := 5) rfl rfl)) ?_
    refine s_val rfl (x_assign (by conv => lhs; whnf)) ?_
    refine s_end ?_
    refine WP_cond rfl (fun h2 => ?_) (fun h2 => ?_)
    · skip
      refine WP_r rfl ?_
      refine s_val rfl (x_assign (by conv => lhs; whnf)) ?_
      refine s_val rfl (x_assign (by conv => lhs; whnf)) ?_
      refine s_end ?_
      refine WP_ret ?_
      refine blockQ_r ?_
      refine thenQ_r ?_
      refine retQ_2 rfl (by conv => lhs; whnf) (by conv => lhs; whnf) ?_
      refine ⟨none, 0, 0, ?_, ?_⟩
      · unfold D.read; rw [if_neg hl, if_pos h2]
      · unfold D.read; rw [if_neg hl, if_pos h2]; exact hx.addNil _ _
    · skip
      refine WP_skip ?_
      refine blockQ_n ?_
      refine thenQ_n ?_
      obtain ⟨i, rfl⟩ : ∃ i : Nat, at_ = i := ⟨at_.toNat, by omega⟩
      have ⟨a, cap, fb', mb', mm', ff', R⟩ := DISK.read h
      obtain ⟨l, hli, hlast, hlen⟩ := D.latest_at R.ok (i := i) (by omega)
      have hlk := many_look R.many R.mapM.nodup hli (R.ok.each l (List.mem_of_getElem? hli)).1
      replace c2 := R.c2
      replace HM := R.mapM
      refine WP_r rfl ?_
      refine s_val rfl (x_move (by conv => lhs; whnf)) ?_
      refine s_val rfl (x_move (by conv => lhs; whnf)) ?_
      refine s_val rfl (x_move (by conv => lhs; whnf)) ?_
      refine s_val rfl (x_nilCheck rfl) ?_
      refine s_val rfl (x_field (off := 2) (by kernel_rfl) rfl) ?_
      refine s_val rfl (x_load (by kernel_rfl) rfl (by first | assumption | exact H.cell (i := 0) rfl rfl | exact H.cell (i := 1) rfl rfl | exact H.cell (i := 2) rfl rfl | exact H.cell (i := 3) rfl rfl | exact H.cell (i := 4) rfl rfl | exact H.cell (i := 5) rfl rfl)) ?_
      refine s_val rfl (x_move (by conv => lhs; whnf)) ?_
      refine s_val rfl (x_lookupV (show Try.prog.underlying 47 = some (.map 3 3) by kernel_rfl) keyT_many (show ZeroT Try.prog 3 (.int .i64 0) by unfold ZeroT; kernel_rfl) hlk rfl (k := (i : Int)) rfl HM) ?_
      refine s_call rfl (by kernel_rfl) (value_calls h hli hlast) rfl rfl ?_
      rintro v w2 ⟨a2, cap2, rfl, hr2, e2⟩
      refine s_call rfl (by kernel_rfl) (CloneB_calls hr2 (by omega)) rfl rfl ?_
      rintro v w3 ⟨a3, cap3, rfl, H3⟩
      have hx2 := (hx.heapEq e2).more H3
      refine s_val rfl (x_assign (by conv => lhs; whnf)) ?_
      refine s_val rfl (x_assign (by conv => lhs; whnf)) ?_
      refine s_end ?_
      refine WP_ret ?_
      refine retQ_2 rfl (by conv => lhs; whnf) (by conv => lhs; whnf) ?_
      refine ⟨a3, 256, cap3, ?_, ?_⟩
      · unfold D.read; rw [if_neg hl, if_neg (by rw [h2]; decide)]
      · unfold D.read; rw [if_neg hl, if_neg (by rw [h2]; decide)]; exact hx2
end Go.Sl
