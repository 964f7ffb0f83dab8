/- The disk: settling, syncing, crashing. -/
import Derived.Test.YthalgkfafoehkaaDisk4
namespace Go.Sl
open Go.Proofs

theorem Sat.focus {w0 w : World} {L : List HP} {i : Nat} {p : HP} (H : Sat w0 w L) (hi : L[i]? = some p) : Sat w0 w [p, stars (L.eraseIdx i)] := by
  have h1 : Sat w0 w (L.eraseIdx i ++ [p]) := (H.pick hi).perm (List.perm_append_comm (l₁ := [p]) (l₂ := L.eraseIdx i))
  exact h1.part.perm (List.Perm.swap _ _ _)
theorem Sat.unfocus {w0 w : World} {L : List HP} {i : Nat} {p q : HP} (H : Sat w0 w [q, stars (L.eraseIdx i)]) (hi : L[i]? = some p) : Sat w0 w (L.set i q) := by
  have h1 : Sat w0 w (L.eraseIdx i ++ [q]) := (H.perm (List.Perm.swap _ _ _)).join
  exact (h1.perm (List.perm_append_comm (l₁ := L.eraseIdx i) (l₂ := [q]))).perm (perm_set (lt_of_pick hi) _)
theorem Sat.rdOwn {w0 w : World} {L : List HP} {i : Nat} {ff : List Fe} (H : Sat w0 w L) (hi : L[i]? = some (stars (ff.map Fe.own))) {e : Fe} (he : e ∈ ff) : Rd w e.a 256 e.cap 1 (bys e.bs) := by
  obtain ⟨_, h1, h2, d, s1, s2, hp, _⟩ := H.pick hi
  obtain ⟨g2, sg2, hg2⟩ := stars_mem (p := e.own) (List.mem_map.2 ⟨e, he, rfl⟩) hp
  exact slo_rd ((sg2.trans s1).trans (hpOf_sub _ _)) hg2

/-! ### What settling does -/
section
variable {σ : Type}
/-- Each sector that was written takes one of its values, the sectors rising; 'step' tells which, and what it knows then. -/
def settleL (step : σ → Nat → Nat × σ) : List (List Sect) → σ → List (List Sect) × σ
  | [], s => ([], s)
  | l :: ls, s => if 1 < l.length then ([l.getD (step s (l.length - 1)).1 []] :: (settleL step ls (step s (l.length - 1)).2).1, (settleL step ls (step s (l.length - 1)).2).2)
    else (l :: (settleL step ls s).1, (settleL step ls s).2)
/-- The same by the numbers of the sectors. -/
def settleK (step : σ → Nat → Nat × σ) (vals : List (List Sect)) (off : Nat) : List Nat → List Sect × σ → List Sect × σ
  | [], r => r
  | k :: ks, r => settleK step vals off ks (r.1.set (k - off) ((vals.getD (k - off) []).getD (step r.2 ((vals.getD (k - off) []).length - 1)).1 []), (step r.2 ((vals.getD (k - off) []).length - 1)).2)
theorem settleK_snoc (step : σ → Nat → Nat × σ) (vals : List (List Sect)) (off : Nat) : ∀ (ks : List Nat) (k : Nat) (r : List Sect × σ),
    settleK step vals off (ks ++ [k]) r = settleK step vals off [k] (settleK step vals off ks r) := by
  intro ks
  induction ks with
  | nil => intro k r; rfl
  | cons q ks ih => intro k r; exact ih k _
theorem settleK_shift (step : σ → Nat → Nat × σ) (l : List Sect) (ls : List (List Sect)) (off : Nat) (h : Sect) : ∀ (ks : List Nat) (S : List Sect) (s : σ), (∀ k ∈ ks, off < k) →
    settleK step (l :: ls) off ks (h :: S, s) = (h :: (settleK step ls (off + 1) ks (S, s)).1, (settleK step ls (off + 1) ks (S, s)).2) := by
  intro ks
  induction ks with
  | nil => intro S s _; rfl
  | cons k ks ih =>
    intro S s hk
    have h1 := hk k (List.mem_cons_self ..)
    have e : k - off = (k - (off + 1)) + 1 := by omega
    simp only [settleK]
    rw [e]
    simp only [List.set_cons_succ, List.getD_cons_succ]
    exact ih _ _ fun q hq => hk q (List.mem_cons_of_mem _ hq)
theorem settleK_eq (step : σ → Nat → Nat × σ) : ∀ (vals : List (List Sect)) (off : Nat) (ks : List Nat) (s : σ), ks.Pairwise (· < ·) →
    (∀ k, k ∈ ks ↔ ∃ (i : Nat) (l : List Sect), vals[i]? = some l ∧ 1 < l.length ∧ k = off + i) → (∀ l ∈ vals, l ≠ []) →
    settleK step vals off ks (vals.map (fun l => l.headD []), s) = ((settleL step vals s).1.map (fun l => l.headD []), (settleL step vals s).2) := by
  intro vals
  induction vals with
  | nil =>
    intro off ks s _ hk _
    cases ks with
    | nil => rfl
    | cons k ks => obtain ⟨i, l, h, _⟩ := (hk k).1 (List.mem_cons_self ..); simp at h
  | cons l ls ih =>
    intro off ks s hp hk hne
    have hls : ∀ l ∈ ls, l ≠ [] := fun v hv => hne v (List.mem_cons_of_mem _ hv)
    have hrest : ∀ k, (∃ (i : Nat) (v : List Sect), ls[i]? = some v ∧ 1 < v.length ∧ k = (off + 1) + i) ↔ ∃ (i : Nat) (v : List Sect), (l :: ls)[i + 1]? = some v ∧ 1 < v.length ∧ k = off + (i + 1) := fun k => by
      constructor
      · rintro ⟨i, v, h1, h2, h3⟩; exact ⟨i, v, by simpa using h1, h2, by omega⟩
      · rintro ⟨i, v, h1, h2, h3⟩; exact ⟨i, v, by simpa using h1, h2, by omega⟩
    by_cases hl : 1 < l.length
    · have h0 : off ∈ ks := (hk off).2 ⟨0, l, rfl, hl, rfl⟩
      cases ks with
      | nil => cases h0
      | cons k ks =>
        have hall : ∀ q ∈ ks, k < q := (List.pairwise_cons.1 hp).1
        have hko : k = off := by
          rcases List.mem_cons.1 h0 with e | e
          · exact e.symm
          · have h1 := hall off e
            obtain ⟨i, v, _, _, h4⟩ := (hk k).1 (List.mem_cons_self ..)
            omega
        subst hko
        have hks : ∀ q, q ∈ ks ↔ ∃ (i : Nat) (v : List Sect), ls[i]? = some v ∧ 1 < v.length ∧ q = (k + 1) + i := fun q => by
          rw [hrest]
          constructor
          · intro hq
            have h1 := hall q hq
            obtain ⟨i, v, h2, h3, h4⟩ := (hk q).1 (List.mem_cons_of_mem _ hq)
            cases i with
            | zero => omega
            | succ i => exact ⟨i, v, h2, h3, h4⟩
          · rintro ⟨i, v, h2, h3, h4⟩
            rcases List.mem_cons.1 ((hk q).2 ⟨i + 1, v, h2, h3, h4⟩) with e | e
            · omega
            · exact e
        simp only [settleK, Nat.sub_self, List.map_cons, List.set_cons_zero, List.getD_cons_zero]
        rw [settleK_shift step l ls k _ ks _ _ hall, ih (k + 1) ks _ (List.pairwise_cons.1 hp).2 hks hls]
        simp only [settleL, if_pos hl, List.map_cons, List.headD_cons]
    · have hks : ∀ q, q ∈ ks ↔ ∃ (i : Nat) (v : List Sect), ls[i]? = some v ∧ 1 < v.length ∧ q = (off + 1) + i := fun q => by
        rw [hrest, hk q]
        constructor
        · rintro ⟨i, v, h2, h3, h4⟩
          cases i with
          | zero => simp at h2; subst h2; exact absurd h3 hl
          | succ i => exact ⟨i, v, h2, h3, h4⟩
        · rintro ⟨i, v, h2, h3, h4⟩; exact ⟨i + 1, v, h2, h3, h4⟩
      have hall : ∀ q ∈ ks, off < q := fun q hq => by obtain ⟨i, v, _, _, h4⟩ := (hks q).1 hq; omega
      rw [List.map_cons, settleK_shift step l ls off _ ks _ _ hall, ih (off + 1) ks s hp hks hls]
      simp only [settleL, if_neg hl, List.map_cons]
theorem settleK_len (step : σ → Nat → Nat × σ) (vals : List (List Sect)) (off : Nat) : ∀ (ks : List Nat) (r : List Sect × σ), (settleK step vals off ks r).1.length = r.1.length := by
  intro ks
  induction ks with
  | nil => intro r; rfl
  | cons k ks ih => intro r; rw [settleK, ih]; simp
theorem settleK_other (step : σ → Nat → Nat × σ) (vals : List (List Sect)) : ∀ (ks : List Nat) (r : List Sect × σ) (j : Nat), j ∉ ks → (settleK step vals 0 ks r).1[j]? = r.1[j]? := by
  intro ks
  induction ks with
  | nil => intro r j _; rfl
  | cons k ks ih =>
    intro r j hj
    rw [settleK, ih _ _ fun h => hj (List.mem_cons_of_mem _ h)]
    have : k - 0 ≠ j := fun e => hj (by rw [← e]; exact List.mem_cons_self ..)
    simp only [List.getElem?_set_ne this]
theorem settleK_sect (step : σ → Nat → Nat × σ) (vals : List (List Sect)) (hs : ∀ s m, (step s m).1 ≤ m) (hv : ∀ l ∈ vals, ∀ b ∈ l, b.length = 256) :
    ∀ (ks : List Nat) (r : List Sect × σ), (∀ k ∈ ks, ∃ l, vals[k]? = some l ∧ l ≠ []) → (∀ b ∈ r.1, b.length = 256) → ∀ b ∈ (settleK step vals 0 ks r).1, b.length = 256 := by
  intro ks
  induction ks with
  | nil => intro r _ h; exact h
  | cons k ks ih =>
    intro r hk h
    rw [settleK]
    refine ih _ (fun q hq => hk q (List.mem_cons_of_mem _ hq)) fun b hb => ?_
    rcases List.mem_or_eq_of_mem_set hb with h1 | h1
    · exact h b h1
    · obtain ⟨l, hl, hne⟩ := hk k (List.mem_cons_self ..)
      have hle := hs r.2 (l.length - 1)
      have hpos : 0 < l.length := List.length_pos_iff.2 hne
      have e : vals.getD (k - 0) [] = l := by simp [List.getD_eq_getElem?_getD, hl]
      rw [h1, e]
      have hlt : (step r.2 (l.length - 1)).1 < l.length := by omega
      rw [List.getD_eq_getElem?_getD, List.getElem?_eq_getElem hlt, Option.getD_some]
      exact hv l (List.mem_of_getElem? hl) _ (List.getElem_mem hlt)
theorem settleL_length (step : σ → Nat → Nat × σ) : ∀ (vals : List (List Sect)) (s : σ), (settleL step vals s).1.length = vals.length := by
  intro vals
  induction vals with
  | nil => intro s; rfl
  | cons l ls ih =>
    intro s
    unfold settleL
    split
    · simp [ih]
    · simp [ih]
theorem settleL_mem (step : σ → Nat → Nat × σ) (hs : ∀ s m, (step s m).1 ≤ m) : ∀ (vals : List (List Sect)) (s : σ), (∀ l ∈ vals, l ≠ [] ∧ ∀ b ∈ l, b.length = 256) → ∀ l ∈ (settleL step vals s).1, l.length = 1 ∧ ∀ b ∈ l, b.length = 256 := by
  intro vals
  induction vals with
  | nil => intro s _ l hl; cases hl
  | cons v ls ih =>
    intro s h l hl
    have hv := h v (List.mem_cons_self ..)
    unfold settleL at hl
    split at hl
    · rcases List.mem_cons.1 hl with e | e
      · subst e
        refine ⟨rfl, fun b hb => ?_⟩
        simp only [List.mem_singleton] at hb
        subst hb
        have := hs s (v.length - 1)
        have hlt : (step s (v.length - 1)).1 < v.length := by omega
        rw [List.getD_eq_getElem?_getD, List.getElem?_eq_getElem hlt, Option.getD_some]
        exact hv.2 _ (List.getElem_mem hlt)
      · exact ih _ (fun u hu => h u (List.mem_cons_of_mem _ hu)) l e
    · rename_i hle
      rcases List.mem_cons.1 hl with e | e
      · subst e
        have : l.length ≠ 0 := fun q => hv.1 (List.length_eq_zero_iff.1 q)
        exact ⟨by omega, hv.2⟩
      · exact ih _ (fun u hu => h u (List.mem_cons_of_mem _ hu)) l e
end
def D.settle {σ : Type} (step : σ → Nat → Nat × σ) (x : D) (s : σ) : D := { x with vals := (settleL step x.vals s).1 }
theorem settle_ok {σ : Type} {step : σ → Nat → Nat × σ} (hs : ∀ s m, (step s m).1 ≤ m) {x : D} (h : x.Ok) (s : σ) : (x.settle step s).Ok := by
  have hm := settleL_mem step hs x.vals s fun l hl => ⟨(h.each l hl).1, h.sect l hl⟩
  have hl : (x.settle step s).vals.length = x.vals.length := settleL_length step x.vals s
  refine ⟨by rw [hl]; exact h.pos, by rw [hl]; exact h.big, fun l hl => ?_, fun l hl => (hm l hl).2, h.5, h.6⟩
  have := (hm l hl).1
  exact ⟨(fun e => by rw [e] at this; cases this), by omega⟩
theorem settle_one {σ : Type} {step : σ → Nat → Nat × σ} (hs : ∀ s m, (step s m).1 ≤ m) {x : D} (h : x.Ok) (s : σ) : ∀ l ∈ (x.settle step s).vals, l.length = 1 :=
  fun l hl => (settleL_mem step hs x.vals s (fun l hl => ⟨(h.each l hl).1, h.sect l hl⟩) l hl).1
theorem many_none {x : D} (h : ∀ l ∈ x.vals, l.length = 1) : Many x [] := fun k v => by
  constructor
  · intro h; cases h
  · rintro ⟨i, l, h1, h2, _⟩
    have := h l (List.mem_of_getElem? h1)
    omega
theorem fresh_none {x : D} (h : ∀ l ∈ x.vals, l.length = 1) : Fresh x [] := fun k1 k2 bs => by
  constructor
  · rintro ⟨e, he, _⟩; cases he
  · rintro ⟨i, j, l, h1, h2, h3, _⟩
    have h4 := h l (List.mem_of_getElem? h1)
    have := (List.getElem?_eq_some_iff.1 h3).1
    omega
theorem pasted_chunk (k : Nat) : ∀ (S : List Sect), (∀ v ∈ S, v.length = k) → ∀ (i : Nat) (b : Sect), i < S.length → b.length = k → pasted (bys S.flatten) (i * k) (bys b) = bys (S.set i b).flatten := by
  intro S
  induction S with
  | nil => intro _ i b hi; simp at hi
  | cons v S ih =>
    intro hS i b hi hb
    have hv := hS v (List.mem_cons_self ..)
    cases i with
    | zero =>
      unfold pasted
      rw [Nat.zero_mul, List.take_zero, List.nil_append, Nat.zero_add, bys_length, hb, List.set_cons_zero, List.flatten_cons, List.flatten_cons]
      simp only [bys, List.map_append]
      rw [← hv, show v.length = (v.map by1).length by simp, List.drop_left]
    | succ i =>
      have h1 := ih (fun u hu => hS u (List.mem_cons_of_mem _ hu)) i b (by simpa using hi) hb
      rw [List.set_cons_succ, List.flatten_cons, List.flatten_cons]
      simp only [bys, List.map_append] at h1 ⊢
      rw [← h1]
      unfold pasted
      have hvl : (v.map by1).length = k := by simpa using hv
      rw [Nat.succ_mul, Nat.add_comm (i * k) k, ← hvl, List.take_length_add_append, Nat.add_assoc, List.drop_length_add_append]
      simp [List.append_assoc]
end Go.Sl
