/- The disk: settle. -/
import Derived.Test.YthalgkfafoehkaaDiskKeys
import Derived.Test.YthalgkfafoehkaaSl11
namespace Go.Sl
open Go.Proofs

theorem many_len {x : D} {mm : List (Int × Value)} (hM : Many x mm) (hn : (mm.map (·.1)).Nodup) : mm.length ≤ x.vals.length := by
  have h1 : ∀ p ∈ mm, ∃ i : Nat, i < x.vals.length ∧ p.1 = i := fun p hp => by
    obtain ⟨i, l, h1, _, h3, _⟩ := (hM p.1 p.2).1 hp
    exact ⟨i, (List.getElem?_eq_some_iff.1 h1).1, h3⟩
  have h2 := nodup_le x.vals.length (mm.map fun p => p.1.toNat) (by
    rw [List.nodup_iff_pairwise_ne, List.pairwise_map] at hn ⊢
    refine hn.imp_of_mem fun {p q} hp hq hne e => hne ?_
    obtain ⟨i, _, hi⟩ := h1 p hp
    obtain ⟨j, _, hj⟩ := h1 q hq
    omega) fun k hk => by
      obtain ⟨p, hp, e⟩ := List.mem_map.1 hk
      obtain ⟨i, h, hi⟩ := h1 p hp
      omega
  simpa using h2
theorem many_wf {x : D} (h : x.Ok) {mm : List (Int × Value)} (hM : Many x mm) : ∀ p ∈ mm, (Lit.int .i64 p.1).wf = true := fun p hp => by
  obtain ⟨i, l, h1, _, h3, _⟩ := (hM p.1 p.2).1 hp
  have h2 := (List.getElem?_eq_some_iff.1 h1).1
  have h4 := h.big
  rw [h3]
  simp only [Lit.wf, decide_eq_true_eq, Bool.and_eq_true]
  have h5 : IntKind.min .i64 = -9223372036854775808 := by decide
  have h6 : IntKind.max .i64 = 9223372036854775807 := by decide
  rw [h5, h6]
  omega
theorem keysNat {x : D} {mm : List (Int × Value)} (hM : Many x mm) {ks : List Int} (hp : ks.Pairwise (· < ·)) (hk : ∀ k, k ∈ ks ↔ k ∈ mm.map (·.1)) :
    ∃ K : List Nat, ks = K.map (fun n : Nat => (n : Int)) ∧ K.Pairwise (· < ·) ∧ ∀ k, k ∈ K ↔ ∃ (i : Nat) (l : List Sect), x.vals[i]? = some l ∧ 1 < l.length ∧ k = 0 + i := by
  have h1 : ∀ k ∈ ks, ∃ (i : Nat) (l : List Sect), x.vals[i]? = some l ∧ 1 < l.length ∧ k = i := fun k h => by
    obtain ⟨p, hp, rfl⟩ := List.mem_map.1 ((hk k).1 h)
    obtain ⟨i, l, h1, h2, h3, _⟩ := (hM p.1 p.2).1 hp
    exact ⟨i, l, h1, h2, h3⟩
  have he : ks = (ks.map Int.toNat).map (fun n : Nat => (n : Int)) := by
    rw [List.map_map]
    conv => lhs; rw [← List.map_id ks]
    refine List.map_congr_left fun k h => ?_
    obtain ⟨i, _, _, _, rfl⟩ := h1 k h
    simp
  refine ⟨ks.map Int.toNat, he, ?_, fun k => ?_⟩
  · rw [List.pairwise_map]
    refine hp.imp_of_mem fun {a b} ha hb hlt => ?_
    obtain ⟨i, _, _, _, rfl⟩ := h1 a ha
    obtain ⟨j, _, _, _, rfl⟩ := h1 b hb
    omega
  · rw [List.mem_map]
    constructor
    · rintro ⟨a, ha, rfl⟩
      obtain ⟨i, l, h2, h3, rfl⟩ := h1 a ha
      exact ⟨i, l, h2, h3, by simp⟩
    · rintro ⟨i, l, h2, h3, rfl⟩
      refine ⟨i, (hk _).2 (List.mem_map.2 ⟨((i : Int), .int .i64 ((l.length - 1 : Nat) : Int)), (hM _ _).2 ⟨i, l, h2, h3, rfl, rfl⟩, rfl⟩), by simp⟩
theorem take_snoc {α : Type} (l : List α) (k : Nat) {a : α} (h : l[k]? = some a) : l.take (k + 1) = l.take k ++ [a] := by
  rw [List.take_add_one, h]; rfl
theorem settleK_one {σ : Type} (step : σ → Nat → Nat × σ) (vals : List (List Sect)) (i : Nat) (r : List Sect × σ) {l : List Sect} (hl : vals[i]? = some l) :
    settleK step vals 0 [i] r = (r.1.set i (l.getD (step r.2 (l.length - 1)).1 []), (step r.2 (l.length - 1)).2) := by
  have e : vals.getD i [] = l := by simp [List.getD_eq_getElem?_getD, hl]
  simp only [settleK, Nat.sub_zero, e]
theorem chunkS (k : Nat) : ∀ (S : List Sect), (∀ v ∈ S, v.length = k) → ∀ (i : Nat) (v : Sect), S[i]? = some v → (S.flatten.drop (i * k)).take k = v := by
  intro S
  induction S with
  | nil => intro _ i v h; simp at h
  | cons u S ih =>
    intro hS i v h
    have hu := hS u (List.mem_cons_self ..)
    cases i with
    | zero =>
      simp at h; subst h
      rw [Nat.zero_mul, List.drop_zero, List.flatten_cons, ← hu, List.take_left]
    | succ i =>
      rw [List.flatten_cons, Nat.succ_mul, Nat.add_comm, ← hu, List.drop_length_add_append, hu]
      exact ih (fun v hv => hS v (List.mem_cons_of_mem _ hv)) i v (by simpa using h)
theorem flatLen (k : Nat) : ∀ (S : List Sect), (∀ v ∈ S, v.length = k) → S.flatten.length = k * S.length := by
  intro S
  induction S with
  | nil => intro _; simp
  | cons u S ih =>
    intro hS
    rw [List.flatten_cons, List.length_append, ih (fun v hv => hS v (List.mem_cons_of_mem _ hv)), hS u (List.mem_cons_self ..), List.length_cons, Nat.mul_succ]; omega

theorem Sat.back {w0 w : World} {A B C : List HP} (H : Sat w0 w (A ++ (B ++ C))) : Sat w0 w (A ++ (C ++ B)) := H.perm (List.Perm.append_left _ List.perm_append_comm)
theorem Sat.front2 {w0 w : World} {A : List HP} {p q : HP} (H : Sat w0 w (A ++ [p, q])) : Sat w0 w [p, q, stars A] := H.part.perm (List.perm_append_comm (l₁ := [stars A]) (l₂ := [p, q]))
theorem Sat.unfront2 {w0 w : World} {A : List HP} {p q : HP} (H : Sat w0 w [p, q, stars A]) : Sat w0 w (A ++ [p, q]) := (H.perm (List.perm_append_comm (l₁ := [p, q]) (l₂ := [stars A]))).join
/-- One of the values of a sector that is still to be settled. -/
theorem value_any {w w0 : World} {d : Nat} {x : D} {a : Option Addr} {cap fb mb : Nat} {ff : List Fe} {mm : List (Int × Value)} {S : List Sect} {M : List HP} {fo sh : List Fe} {i j : Nat} {l : List Sect} {bs : Sect} (hok : x.Ok) (hF : Fresh x ff) (hfo : ∀ e ∈ ff, e ∈ fo ∨ e ∈ sh) (hsh : ROs w sh)
    (H : Sat w0 w (blk d (.cells #[.slice a (256 * x.vals.length) cap, .map (some fb), .map (some mb), .int .i64 x.left, .bool x.off, .int .i64 x.taken] 49 (0, 0)) :: slo 5 1 a (256 * x.vals.length) cap (bys S.flatten) :: mapP intF mb mm ::
      mapP pairF fb (ff.map Fe.pair) :: stars (fo.map Fe.own) :: M)) (hS : ∀ v ∈ S, v.length = 256) (hSi : S[i]? = some (l.headD [])) (hi : x.vals[i]? = some l) (hj : l[j]? = some bs) :
    Calls Try.prog 44 #[dp d, .int .i64 i, .int .i64 j] w (Ret fun v w' => ∃ a cap, v = .slice a 256 cap ∧ Rd w' a 256 cap 1 (bys bs) ∧ core w' = core w) := by
  have hil : i < x.vals.length := (List.getElem?_eq_some_iff.1 hi).1
  rcases Nat.eq_zero_or_pos j with q | q
  · subst q
    have hl : l.headD [] = bs := by cases l with | nil => simp at hj | cons s l => simpa using hj
    have := value0_calls (H.cell (i := 0) (off := 0) rfl rfl) (H.rd (i := 1) rfl) hil hok.big
    rw [chunkS 256 S hS i _ hSi, hl] at this
    exact this
  · obtain ⟨e, he, hk, hbs⟩ := (hF i j bs).2 ⟨i, j, l, hi, q, hj, rfl, rfl⟩
    have := valueN_calls (H.cell (i := 0) (off := 1) rfl rfl) (H.mapW (i := 3) rfl) he hk q ((hfo e he).elim (fun he => H.rdOwn (i := 4) rfl he) (hsh e))
    rw [hbs] at this
    exact this
theorem settle_calls {σ : Type} {G : σ → HP} {step : σ → Nat → Nat × σ} {g : FuncId} {caps : Array Value} (hs : ∀ s m, (step s m).1 ≤ m) (hb : bodyB Try.prog g = true) {w0 : World} {F : HP} {sh : List Fe} (hsh : RO w0 F sh) {C : Nat → σ → Prop} (hC : ∀ k s m, C k s → C (k + 1) (step s m).2)
    (hG : ∀ (w : World) (L : HP) (k : Nat) (s : σ) (i m : Nat), C k s → k < 4096 → m ≤ 4611686018427387904 → Sat w0 w [G s, F, L] → Calls Try.prog g (([.int .i64 i, .int .i64 m] : List Value) ++ caps.toList).toArray w (Ret fun v w' => v = .int .i64 ((step s m).1 : Nat) ∧ Sat w0 w' [G (step s m).2, F, L]))
    {w : World} {d : Nat} {x : D} {s : σ} (hC0 : C 0 s) (H : Sat w0 w [DISK d x sh, G s, F]) :
    Calls Try.prog 41 #[dp d, .func (.func g) #[] caps] w (Ret fun v w' => v = .tuple #[] ∧ Sat w0 w' [DISK d (x.settle step s) sh, G (settleL step x.vals s).2, F]) := by
  obtain ⟨a, cap, fb, mb, mm, ff, fo, hok, hM, hF, hfo, H⟩ := DISK.openL H
  simp only [dlist, List.cons_append, List.nil_append] at H
  have hbig := hok.big
  have hv : ∀ l ∈ x.vals, ∀ b ∈ l, b.length = 256 := hok.sect
  have hne : ∀ l ∈ x.vals, l ≠ [] := fun l h => (hok.each l h).1
  have hS0 : ∀ b ∈ x.vals.map (fun l => l.headD []), b.length = 256 := fun b hb => by
    obtain ⟨l, hl, rfl⟩ := List.mem_map.1 hb
    cases l with
    | nil => exact absurd rfl (hne _ hl)
    | cons u l => exact hv _ hl u (List.mem_cons_self ..)
  refine calls_of Try.func41 rfl rfl ?_
  refine WP_seq ?_
  refine WP_r rfl ?_
  refine s_val rfl (x_move (by conv => lhs; whnf)) ?_
  refine s_val rfl (x_nilCheck rfl) ?_
  refine s_val rfl (x_field (off := 2) (by kernel_rfl) rfl) ?_
  refine s_val rfl (x_load (by kernel_rfl) rfl (by first | exact H.cell (i := 0) rfl rfl | exact hI.1 | exact hI.2.1)) ?_
  refine s_call rfl (by kernel_rfl) (keys_calls (mb := mb)) rfl rfl ?_
  rintro v w1 ⟨rfl, rfl⟩
  have HM := H.mapW (i := 2) rfl
  have H1 := H.alloc (.cells #[.map (some mb)] 47)
  have HM1 := H1.mapW (i := 2) rfl
  clear H
  refine s_call rfl (by kernel_rfl) (sorted_calls (p := w.heap.size) (mb := mb) (H1.cell (i := 7) (off := 0) rfl rfl) (Array.getElem?_eq_some_iff.1 (H1.block (i := 7) rfl).1).1 HM1 (many_wf hok hM) (by have := many_len hM HM.nodup; omega)) rfl rfl ?_
  rintro v w2 ⟨ka, kc, ks, rfl, H2, hp, hk⟩
  obtain ⟨K, hKe, hKp, hK⟩ := keysNat hM hp hk
  have hKl : ks.length = K.length := by rw [hKe, List.length_map]
  rw [hKl, hKe] at H2
  rw [hKl]
  clear hp hk hKl hKe
  have hK4 : K.length ≤ 4096 := by
    have := nodup_le x.vals.length K (List.nodup_iff_pairwise_ne.2 (hKp.imp fun h => Nat.ne_of_lt h)) fun k hk => by
      obtain ⟨i, l, h1, _, h3⟩ := (hK k).1 hk
      have := (List.getElem?_eq_some_iff.1 h1).1
      omega
    omega
  have H : Sat w0 w2 ([_, _, _, _, _] ++ ([G s, F] ++ [_, _])) := H1.more H2
  replace H := H.back
  simp only [List.cons_append, List.nil_append] at H
  rw [D.sure_eq] at H
  clear H1 H2 HM HM1
  refine s_val rfl (x_lenS (by kernel_rfl) rfl) ?_
  refine s_val rfl (x_move (by conv => lhs; whnf)) ?_
  refine s_end ?_
  refine WP_block ?_
  refine WP_loopA (α := Nat) (fun k => [(0, dp d), (1, .func (.func g) #[] caps), (11, .slice ka K.length kc), (12, .int .i64 K.length), (13, .int .i64 k)]) (fun k w' => k ≤ K.length ∧ C k (settleK step x.vals 0 (K.take k) (x.vals.map (fun l => l.headD []), s)).2 ∧ Sat w0 w' ([
    blk d (.cells #[.slice a (256 * x.vals.length) cap, .map (some fb), .map (some mb), .int .i64 x.left, .bool x.off, .int .i64 x.taken] 49 (0, 0)),
    slo 5 1 a (256 * x.vals.length) cap (bys (settleK step x.vals 0 (K.take k) (x.vals.map (fun l => l.headD []), s)).1.flatten), mapP intF mb mm, mapP pairF fb (ff.map Fe.pair), stars (fo.map Fe.own),
    blk w.heap.size (.cells #[.map (some mb)] 47), slo 3 1 ka K.length kc ((K.map (fun n : Nat => (n : Int))).map intF)] ++
    [G (settleK step x.vals 0 (K.take k) (x.vals.map (fun l => l.headD []), s)).2, F])) (fun k => K.length - k) 0 ⟨rfl, rfl, rfl, rfl, rfl, trivial⟩ ⟨Nat.zero_le _, hC0, H⟩ ?_
  clear H
  intro k ρ w3 ⟨hkl, hCk, H⟩
  generalize hr : settleK step x.vals 0 (K.take k) (x.vals.map (fun l => l.headD []), s) = r at H hCk
  have hrS : ∀ b ∈ r.1, b.length = 256 := by
    rw [← hr]
    exact settleK_sect step x.vals hs hv _ _ (fun q hq => by
      obtain ⟨i, l, h1, h2, h3⟩ := (hK q).1 (List.mem_of_mem_take hq)
      have : q = i := by omega
      exact ⟨l, by rw [this]; exact h1, fun e => by rw [e] at h2; simp at h2⟩) hS0
  have hrl : r.1.length = x.vals.length := by rw [← hr, settleK_len, List.length_map]
  refine WP_r rfl ?_
  refine s_val rfl (x_lss rfl rfl) ?_
  refine s_end ?_
  refine WP_seq ?_
  refine WP_cond_dec rfl (fun h1 => ?_) (fun h1 => ?_)
  · skip
    refine WP_skip ?_
    refine thenQ_n ?_
    refine WP_seq ?_
    refine WP_block ?_
    have hk : k < K.length := by omega
    have HR := H.rd (i := 6) rfl
    obtain ⟨i, hKi⟩ : ∃ i, K[k]? = some i := ⟨_, List.getElem?_eq_getElem hk⟩
    obtain ⟨i', l, hli, hll, e⟩ := (hK i).1 (List.mem_of_getElem? hKi)
    have e' : i' = i := by omega
    subst e'
    have hel : ∀ j, j = k → ((K.map (fun n : Nat => (n : Int))).map intF)[j]? = some (.int .i64 (i' : Nat)) := fun j hj => by
      subst hj; rw [List.getElem?_map, List.getElem?_map, hKi]; rfl
    have hil : i' < x.vals.length := (List.getElem?_eq_some_iff.1 hli).1
    have hlc := (hok.each l (List.mem_of_getElem? hli)).2
    refine WP_r rfl ?_
    refine s_val rfl (x_index (show SlT Try.prog 31 3 1 8 from ⟨by kernel_rfl, by kernel_rfl⟩) rfl rfl (by omega) (by omega) HR) ?_
    refine s_val rfl (x_loadR (by kernel_rfl) rfl HR (hel _ (by omega))) ?_
    refine s_val rfl (x_assign (by conv => lhs; whnf)) ?_
    refine s_end ?_
    have c0 := H.cell (i := 0) (off := 0) rfl rfl
    have c2 := H.cell (i := 0) (off := 2) rfl rfl
    have HM := H.mapW (i := 2) rfl
    have hcap := (H.rd (i := 1) rfl).2.1
    have hlk := many_look hM HM.nodup hli (hne l (List.mem_of_getElem? hli))
    have hrs : r.1[i']? = some (l.headD []) := by
      rw [← hr, settleK_other step x.vals _ _ _ (fun hm => ?_)]
      · show (x.vals.map _)[i']? = _
        rw [List.getElem?_map, hli]; rfl
      · obtain ⟨j, hj, e⟩ := List.mem_iff_getElem.1 hm
        have hjk : j < k := by simp at hj; omega
        have e2 : K[j]'(by omega) = i' := by rw [← e]; simp
        have h5 := List.pairwise_iff_getElem.1 hKp j k (by omega) hk hjk
        have h6 := (List.getElem?_eq_some_iff.1 hKi).2
        omega
    refine WP_draw (fun w => w.cell? ⟨d, 0, none⟩ = some (.slice a (256 * x.vals.length) cap) ∧ w.cell? ⟨d, 2, none⟩ = some (.map (some mb)) ∧ MapAt w intF mb mm) (.float 0 (.float 1 (.float 2 (.float 3 (.float 4 (.float 5 (.float 6 (.float 7 (.float 8 (.float 9 (.float 10 (.float 11 (.float 12 (.float 13 (.float 14 (.float 15 (.float 16 (.fork [(17, .fork [(18, .fork [(19, .done)])])])))))))))))))))))) (by kernel_rfl) (by kernel_rfl) ⟨c0, c2, HM⟩ ?_
    replace H := H.heapEq (w' := { w3 with drawn := w3.drawn + 1 }) rfl
    refine r_val rfl rfl (fun w hI => x_move (by conv => lhs; whnf)) ?_
    refine r_val rfl rfl (fun w hI => x_nilCheck rfl) ?_
    refine r_val rfl rfl (fun w hI => x_field (off := 0) (by kernel_rfl) rfl) ?_
    refine r_val rfl rfl (fun w hI => x_load (by kernel_rfl) rfl (by first | exact H.cell (i := 0) rfl rfl | exact hI.1 | exact hI.2.1)) ?_
    refine r_val rfl rfl (fun w hI => x_move (by conv => lhs; whnf)) ?_
    refine r_val rfl rfl (fun w hI => x_muli rfl rfl (by omega)) ?_
    refine r_val rfl rfl (fun w hI => x_sliceLo (show SlT Try.prog 37 5 1 1 from ⟨by kernel_rfl, by kernel_rfl⟩) rfl rfl (by omega) (by omega) hcap) ?_
    refine r_val rfl rfl (fun w hI => x_move (by conv => lhs; whnf)) ?_
    refine r_val rfl rfl (fun w hI => x_move (by conv => lhs; whnf)) ?_
    refine r_val rfl rfl (fun w hI => x_move (by conv => lhs; whnf)) ?_
    refine r_val rfl rfl (fun w hI => x_move (by conv => lhs; whnf)) ?_
    refine r_val rfl rfl (fun w hI => x_move (by conv => lhs; whnf)) ?_
    refine r_val rfl rfl (fun w hI => x_nilCheck rfl) ?_
    refine r_val rfl rfl (fun w hI => x_field (off := 2) (by kernel_rfl) rfl) ?_
    refine r_val rfl rfl (fun w hI => x_load (by kernel_rfl) rfl (by first | exact H.cell (i := 0) rfl rfl | exact hI.1 | exact hI.2.1)) ?_
    refine r_val rfl rfl (fun w hI => x_move (by conv => lhs; whnf)) ?_
    refine r_val rfl rfl (fun w hI => x_lookupV (show Try.prog.underlying 47 = some (.map 3 3) by kernel_rfl) keyT_many (show ZeroT Try.prog 3 (.int .i64 0) by unfold ZeroT; kernel_rfl) hlk rfl (k := (i' : Int)) rfl hI.2.2) ?_
    refine r_one rfl ?_
    refine s_call rfl hb (hG _ _ k r.2 i' (l.length - 1) hCk (by omega) (by omega) H.front2) rfl rfl ?_
    rintro v w4 ⟨rfl, H4⟩
    replace H := H4.unfront2
    clear H4
    have hst := hs r.2 (l.length - 1)
    obtain ⟨bs, hbs⟩ : ∃ bs, l[(step r.2 (l.length - 1)).1]? = some bs := ⟨_, List.getElem?_eq_getElem (by omega)⟩
    have hbl : bs.length = 256 := hv l (List.mem_of_getElem? hli) _ (List.mem_of_getElem? hbs)
    refine s_end ?_
    refine ⟨⟨H.cell (i := 0) (off := 0) rfl rfl, H.cell (i := 0) (off := 2) rfl rfl, H.mapW (i := 2) rfl⟩, ?_⟩
    refine r_one rfl ?_
    refine s_call rfl (by kernel_rfl) (value_any hok hF hfo (hsh _ (H.only (i := 8) rfl)) H hrS hrs hli hbs) rfl rfl ?_
    rintro v w5 ⟨va, vc, rfl, hrd, e5⟩
    replace H := H.heapEq e5
    clear e5
    refine s_end ?_
    refine ⟨⟨H.cell (i := 0) (off := 0) rfl rfl, H.cell (i := 0) (off := 2) rfl rfl, H.mapW (i := 2) rfl⟩, ?_⟩
    refine r_one rfl ?_
    refine s_copy rfl (show SlT Try.prog 37 5 1 1 from ⟨by kernel_rfl, by kernel_rfl⟩) rfl rfl H (i := 1) rfl (cutAt_sub (H.rd (i := 1) rfl) (lo := i' * 256) (hi := 256 * x.vals.length) (by omega) (Nat.le_refl _)) (by rw [bys_length, flatLen 256 _ hrS, hrl]; omega) hrd (bys_oneCell _) ?_
    clear H
    intro w6 H
    simp only [List.cons_append, List.nil_append, List.set_cons_zero, List.set_cons_succ] at H
    refine s_end ?_
    refine ⟨⟨H.cell (i := 0) (off := 0) rfl rfl, H.cell (i := 0) (off := 2) rfl rfl, H.mapW (i := 2) rfl⟩, ?_⟩
    refine r_done ?_
    refine blockQ_n ?_
    refine thenQ_n ?_
    refine WP_region rfl ?_
    refine s_val rfl (x_addi rfl rfl (by omega)) ?_
    refine s_val rfl (x_move (by conv => lhs; whnf)) ?_
    refine s_end ?_
    refine loopQ_A (k + 1) (by omega) ⟨rfl, rfl, rfl, rfl, rfl, trivial⟩ ⟨by omega, ?_⟩
    have hCn := hC k r.2 (l.length - 1) hCk
    rw [take_snoc _ _ hKi, settleK_snoc, hr, settleK_one step x.vals i' r hli]
    have e1 : l.getD (step r.2 (l.length - 1)).1 [] = bs := by simp [List.getD_eq_getElem?_getD, hbs]
    have e2 : (bys bs).take (min 256 (256 * x.vals.length - ((i' : Int) * 256).toNat) * 1) = bys bs := List.take_of_length_le (by rw [bys_length]; omega)
    rw [e1, ← pasted_chunk 256 r.1 hrS i' bs (by omega) hbl]
    rw [e2, Nat.mul_one] at H
    exact ⟨hCn, H⟩
  · skip
    refine WP_exit ?_
    refine thenQ_e ?_
    refine loopQ_e ?_
    refine blockQ_hit ?_
    have hk : k = K.length := by omega
    rw [hk, List.take_length] at hr
    have hfin := settleK_eq step x.vals 0 K s hKp hK hne
    rw [hr] at hfin
    rw [hfin] at H
    refine thenQ_n ?_
    refine WP_r rfl ?_
    refine s_val rfl (x_move (by conv => lhs; whnf)) ?_
    refine s_val rfl (x_nilCheck rfl) ?_
    refine s_val rfl (x_field (off := 1) (by kernel_rfl) rfl) ?_
    refine s_val rfl (x_load (by kernel_rfl) rfl (by first | exact H.cell (i := 0) rfl rfl | exact hI.1 | exact hI.2.1)) ?_
    refine s_clearMap rfl (show Try.prog.underlying 46 = some (.map 66 37) by kernel_rfl) rfl H (i := 3) rfl ?_
    clear H
    intro w6 H
    simp only [List.set_cons_zero, List.set_cons_succ, List.cons_append, List.nil_append] at H
    refine s_end ?_
    refine WP_region rfl ?_
    refine s_val rfl (x_move (by conv => lhs; whnf)) ?_
    refine s_val rfl (x_nilCheck rfl) ?_
    refine s_val rfl (x_field (off := 2) (by kernel_rfl) rfl) ?_
    refine s_val rfl (x_load (by kernel_rfl) rfl (by first | exact H.cell (i := 0) rfl rfl | exact hI.1 | exact hI.2.1)) ?_
    refine s_clearMap rfl (show Try.prog.underlying 47 = some (.map 3 3) by kernel_rfl) rfl H (i := 2) rfl ?_
    clear H
    intro w7 H
    simp only [List.set_cons_zero, List.set_cons_succ] at H
    refine s_end ?_
    refine retQ_0n rfl ?_
    refine ⟨rfl, ?_⟩
    have H8 := ((H.imp (i := 4) (q := emp) rfl fun _ _ => trivial).drop 5).drop 5
    have h1 := settle_one hs hok s
    refine DISK.closeL (settle_ok hs hok s) (many_none h1) (fresh_none h1) (fun _ h => by cases h) (fo := []) (a := a) (cap := cap) (fb := fb) (mb := mb) ?_
    unfold dlist
    rw [D.sure_eq, show (x.settle step s).vals.length = x.vals.length from settleL_length step x.vals s]
    exact H8
end Go.Sl
