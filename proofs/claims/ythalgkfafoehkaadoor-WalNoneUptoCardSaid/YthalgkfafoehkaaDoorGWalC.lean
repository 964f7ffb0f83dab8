/- Several texts of this proof in one. -/
import Derived.Test.YthalgkfafoehkaaDoorGWalB
import Derived.Test.YthalgkfafoehkaaDoorGRow
/- Plain law of a log: what its states are, and what the disk's operations make of them. -/
namespace Go.Sl
open Go.Proofs

/-- A sector's values. -/
def D.S (x : D) (i : Nat) : List Sect := x.vals.getD i []
/-- Each sector has a value; each value is a sector long. -/
def D.Wf (x : D) : Prop := ∀ i, i < x.vals.length → x.S i ≠ [] ∧ ∀ s ∈ x.S i, s.length = 256
theorem D.Ok.wf {x : D} (h : x.Ok) : x.Wf := fun i hi => by
  have hm : x.S i ∈ x.vals := by unfold D.S; rw [List.getD_eq_getElem?_getD, List.getElem?_eq_getElem hi]; exact List.getElem_mem hi
  exact ⟨(h.each _ hm).1, h.sect _ hm⟩
theorem D.latest_eq (x : D) (i : Nat) : x.latest i = (x.S i).getLastD [] := rfl
theorem D.latest_mem {x : D} (h : x.Wf) {i : Nat} (hi : i < x.vals.length) : x.latest i ∈ x.S i := by
  obtain ⟨h1, _⟩ := h i hi
  rw [D.latest_eq, List.getLastD_eq_getLast?, List.getLast?_eq_some_getLast h1]
  exact List.getLast_mem h1
theorem S_out {x : D} {i : Nat} (hi : x.vals.length ≤ i) : x.S i = [] := by unfold D.S; rw [List.getD_eq_getElem?_getD, List.getElem?_eq_none hi]; rfl
/-- What an operation comes to. -/
structure Kept (x x' : D) : Prop where
  vals : x'.vals = x.vals
theorem Kept.S {x x' : D} (h : Kept x x') (i : Nat) : x'.S i = x.S i := by unfold D.S; rw [h.vals]
theorem Kept.wf {x x' : D} (h : Kept x x') (hw : x.Wf) : x'.Wf := fun i hi => by rw [h.S i]; exact hw i (by rw [← h.vals]; exact hi)
theorem write_plain {x : D} (hw : x.Wf) {i : Nat} (hi : i < x.vals.length) {b : List UInt8} (hb : b.length = 256) :
    ((x.write i b).1 = 10 ∧ Kept x (x.write i b).2) ∨ ((x.write i b).1 = 0 ∧ (x.write i b).2.Wf ∧ (x.write i b).2.vals.length = x.vals.length ∧ (x.write i b).2.S i = x.S i ++ [b] ∧ ∀ j, j ≠ i → (x.write i b).2.S j = x.S j) := by
  unfold D.write
  rw [if_neg (by omega), if_neg (by omega)]
  by_cases h : x.take.1 = false
  · rw [if_pos h]; exact .inl ⟨rfl, ⟨take_vals x⟩⟩
  · rw [if_neg h]
    right
    have e : (x.take.2.put ((i : Int)).toNat b).vals = x.vals.set i (x.S i ++ [b]) := by
      show x.take.2.vals.set _ (x.take.2.vals.getD _ [] ++ [b]) = _
      rw [take_vals, Int.toNat_natCast]; rfl
    have h1 : (x.take.2.put ((i : Int)).toNat b).S i = x.S i ++ [b] := by unfold D.S; rw [e, List.getD_eq_getElem?_getD, List.getElem?_set_self (by simpa using hi)]; rfl
    have h2 : ∀ j, j ≠ i → (x.take.2.put ((i : Int)).toNat b).S j = x.S j := fun j hj => by unfold D.S; rw [e, List.getD_eq_getElem?_getD, List.getElem?_set_ne (Ne.symm hj), ← List.getD_eq_getElem?_getD]
    have h3 : (x.take.2.put ((i : Int)).toNat b).vals.length = x.vals.length := by rw [e, List.length_set]
    refine ⟨rfl, fun j hj => ?_, h3, h1, h2⟩
    by_cases q : j = i
    · subst q
      rw [h1]
      refine ⟨by simp, fun s hs => ?_⟩
      rcases List.mem_append.1 hs with h | h
      · exact (hw j hi).2 s h
      · rw [List.mem_singleton.1 h]; exact hb
    · rw [h2 j q]; exact hw j (by rw [← h3]; exact hj)
theorem settle_S {σ : Type} (step : σ → Nat → Nat × σ) (hs : ∀ s m, (step s m).1 ≤ m) : ∀ (v : List (List Sect)) (s : σ), (∀ l ∈ v, l ≠ []) → (settleL step v s).1.length = v.length ∧ ∀ i, i < v.length → ∃ k, k < (v.getD i []).length ∧ (settleL step v s).1.getD i [] = [(v.getD i []).getD k []] := by
  intro v
  induction v with
  | nil => intro s _; exact ⟨rfl, fun i hi => by simp at hi⟩
  | cons l v ih =>
    intro s h
    have hne := h l (List.mem_cons_self ..)
    have hpos : 0 < l.length := List.length_pos_iff.2 hne
    by_cases hl : 1 < l.length
    · obtain ⟨h1, h2⟩ := ih (step s (l.length - 1)).2 fun q hq => h q (List.mem_cons_of_mem _ hq)
      simp only [settleL, if_pos hl]
      refine ⟨by rw [List.length_cons, List.length_cons, h1], fun i hi => ?_⟩
      cases i with
      | zero => exact ⟨(step s (l.length - 1)).1, by have := hs s (l.length - 1); simp; omega, by simp⟩
      | succ i => simpa using h2 i (by simpa using hi)
    · obtain ⟨h1, h2⟩ := ih s fun q hq => h q (List.mem_cons_of_mem _ hq)
      simp only [settleL, if_neg hl]
      refine ⟨by rw [List.length_cons, List.length_cons, h1], fun i hi => ?_⟩
      cases i with
      | zero =>
        refine ⟨0, by simpa using hpos, ?_⟩
        match l, hpos, hl with
        | [u], _, _ => rfl
        | _ :: _ :: _, _, hl => simp at hl
      | succ i => simpa using h2 i (by simpa using hi)
theorem settle_last : ∀ (v : List (List Sect)), (∀ l ∈ v, l ≠ []) → ∀ i, i < v.length → (settleL (fun (_ : Unit) m => (m, ())) v ()).1.getD i [] = [(v.getD i []).getLastD []] := by
  intro v
  induction v with
  | nil => intro _ i hi; simp at hi
  | cons l v ih =>
    intro h i hi
    have hpos : 0 < l.length := List.length_pos_iff.2 (h l (List.mem_cons_self ..))
    by_cases hl : 1 < l.length
    · simp only [settleL, if_pos hl]
      cases i with
      | zero =>
        simp only [List.getD_cons_zero]
        rw [List.getLastD_eq_getLast?, List.getLast?_eq_getElem?, List.getD_eq_getElem?_getD]
      | succ i => simpa using ih (fun q hq => h q (List.mem_cons_of_mem _ hq)) i (by simpa using hi)
    · simp only [settleL, if_neg hl]
      cases i with
      | zero =>
        match l, hpos, hl with
        | [u], _, _ => rfl
        | _ :: _ :: _, _, hl => simp at hl
      | succ i => simpa using ih (fun q hq => h q (List.mem_cons_of_mem _ hq)) i (by simpa using hi)
theorem D.Wf.ne {x : D} (h : x.Wf) : ∀ l ∈ x.vals, l ≠ [] := fun l hl => by
  obtain ⟨i, hi⟩ := List.mem_iff_getElem?.1 hl
  have h1 := (h i (List.getElem?_eq_some_iff.1 hi).1).1
  unfold D.S at h1
  rwa [List.getD_eq_getElem?_getD, hi, Option.getD_some] at h1
theorem sync_plain {x : D} (hw : x.Wf) :
    (x.sync.1 = 10 ∧ Kept x x.sync.2) ∨ (x.sync.1 = 0 ∧ x.sync.2.Wf ∧ x.sync.2.vals.length = x.vals.length ∧ ∀ i, i < x.vals.length → x.sync.2.S i = [x.latest i]) := by
  unfold D.sync
  by_cases h : x.take.1 = true
  · rw [if_pos h]
    right
    have hv : (x.take.2.settle (fun (_ : Unit) m => (m, ())) ()).vals = (settleL (fun (_ : Unit) m => (m, ())) x.vals ()).1 := by
      show (settleL _ x.take.2.vals ()).1 = _
      rw [take_vals]
    have hl : (x.take.2.settle (fun (_ : Unit) m => (m, ())) ()).vals.length = x.vals.length := by rw [hv, settleL_length]
    have hS : ∀ i, i < x.vals.length → (x.take.2.settle (fun (_ : Unit) m => (m, ())) ()).S i = [x.latest i] := fun i hi => by
      unfold D.S
      rw [hv, settle_last _ hw.ne i hi]; rfl
    refine ⟨rfl, fun i hi => ?_, hl, hS⟩
    rw [hl] at hi
    rw [hS i hi]
    refine ⟨by simp, fun s hs => ?_⟩
    rw [List.mem_singleton.1 hs]
    exact (hw i hi).2 _ (D.latest_mem hw hi)
  · rw [if_neg h]; exact .inl ⟨rfl, ⟨take_vals x⟩⟩
theorem crash_plain {x : D} (hw : x.Wf) (p : List Int) : (x.crash p).Wf ∧ (x.crash p).vals.length = x.vals.length ∧ (x.crash p).off = false ∧ (x.crash p).left = -1 ∧ ∀ i, i < x.vals.length → ∃ v, v ∈ x.S i ∧ (x.crash p).S i = [v] := by
  obtain ⟨h1, h2⟩ := settle_S (fun (s : Nat) m => (pickOf p s m, s + 1)) (fun s m => pickOf_le p s m) x.vals 0 hw.ne
  have hS : ∀ i, i < x.vals.length → ∃ v, v ∈ x.S i ∧ (x.crash p).S i = [v] := fun i hi => by
    obtain ⟨k, hk, e⟩ := h2 i hi
    refine ⟨(x.S i).getD k [], ?_, e⟩
    rw [List.getD_eq_getElem?_getD, List.getElem?_eq_getElem (show k < (x.S i).length from hk)]
    exact List.getElem_mem _
  refine ⟨fun i hi => ?_, h1, rfl, rfl, hS⟩
  obtain ⟨v, hv, e⟩ := hS i (by rw [← h1]; exact hi)
  rw [e]
  refine ⟨by simp, fun s hs => ?_⟩
  rw [List.mem_singleton.1 hs]
  exact (hw i (by rw [← h1]; exact hi)).2 v hv
/-! ### Steps -/
theorem runSt_app (fs gs : List (WS → Int × WS)) : ∀ y, runSt (fs ++ gs) y = if (runSt fs y).1 = 0 then runSt gs (runSt fs y).2 else runSt fs y := by
  induction fs with
  | nil => intro y; rfl
  | cons f fs ih =>
    intro y
    show (if (f y).1 = 0 then runSt (fs ++ gs) (f y).2 else f y) = _
    rw [ih]
    show _ = if (if (f y).1 = 0 then runSt fs (f y).2 else f y).1 = 0 then runSt gs (if (f y).1 = 0 then runSt fs (f y).2 else f y).2 else if (f y).1 = 0 then runSt fs (f y).2 else f y
    by_cases h : (f y).1 = 0
    · simp only [if_pos h]
    · simp only [if_neg h]
/-- From P to Q; where the power goes: E. -/
def Tri (P : WS → Prop) (fs : List (WS → Int × WS)) (Q E : WS → Prop) : Prop := ∀ y, P y → ((runSt fs y).1 = 0 → Q (runSt fs y).2) ∧ ((runSt fs y).1 ≠ 0 → (runSt fs y).1 = 10 ∧ E (runSt fs y).2)
theorem Tri.nil {P E : WS → Prop} : Tri P [] P E := fun y h => ⟨fun _ => h, fun q => absurd rfl q⟩
theorem Tri.app {P Q R E : WS → Prop} {fs gs : List (WS → Int × WS)} (h1 : Tri P fs Q E) (h2 : Tri Q gs R E) : Tri P (fs ++ gs) R E := fun y hy => by
  rw [runSt_app]
  by_cases h : (runSt fs y).1 = 0
  · rw [if_pos h]; exact h2 _ ((h1 y hy).1 h)
  · rw [if_neg h]; exact ⟨fun q => absurd q h, (h1 y hy).2⟩
theorem Tri.one {P Q E : WS → Prop} {f : WS → Int × WS} (h : ∀ y, P y → ((f y).1 = 0 ∧ Q (f y).2) ∨ ((f y).1 = 10 ∧ E (f y).2)) : Tri P [f] Q E := fun y hy => by
  have e : runSt [f] y = f y := by
    show (if (f y).1 = 0 then ((0 : Int), (f y).2) else f y) = _
    by_cases q : (f y).1 = 0
    · rw [if_pos q, ← q]
    · rw [if_neg q]
  rw [e]
  rcases h y hy with ⟨a, b⟩ | ⟨a, b⟩
  · exact And.intro (fun _ => b) (fun q => absurd a q)
  · exact And.intro (fun q => by rw [a] at q; cases q) (fun _ => And.intro a b)
theorem Tri.cons {P Q R E : WS → Prop} {f : WS → Int × WS} {fs : List (WS → Int × WS)} (h1 : Tri P [f] Q E) (h2 : Tri Q fs R E) : Tri P (f :: fs) R E := h1.app h2
theorem Tri.weak {P Q E P' Q' E' : WS → Prop} {fs : List (WS → Int × WS)} (h : Tri P fs Q E) (a : ∀ y, P' y → P y) (b : ∀ y, Q y → Q' y) (c : ∀ y, E y → E' y) : Tri P' fs Q' E' := fun y hy =>
  ⟨fun q => b _ ((h y (a y hy)).1 q), fun q => ⟨((h y (a y hy)).2 q).1, c _ ((h y (a y hy)).2 q).2⟩⟩
/-- Many steps: after k of them: P k. -/
theorem Tri.many {P : Nat → WS → Prop} {E : WS → Prop} {fs : List (WS → Int × WS)} (h : ∀ k f, fs[k]? = some f → Tri (P k) [f] (P (k + 1)) E) : Tri (P 0) fs (P fs.length) E := by
  have key : ∀ (fs : List (WS → Int × WS)) (m : Nat), (∀ k f, fs[k]? = some f → Tri (P (m + k)) [f] (P (m + k + 1)) E) → Tri (P m) fs (P (m + fs.length)) E := by
    intro fs
    induction fs with
    | nil => intro m _; exact Tri.nil
    | cons f fs ih =>
      intro m h
      refine Tri.cons (h 0 f rfl) ?_
      have := ih (m + 1) fun k g hk => by
        have := h (k + 1) g (by simpa using hk)
        rwa [show m + (k + 1) = m + 1 + k by omega] at this
      rwa [show m + 1 + fs.length = m + (f :: fs).length by rw [List.length_cons]; omega] at this
  have := key fs 0 fun k f hk => by rw [Nat.zero_add]; exact h k f hk
  rwa [Nat.zero_add] at this
end Go.Sl
/- Plain law of a log: a commit goes through whole or not at all. -/
namespace Go.Sl
open Go.Proofs

def Hom (at_ cap i : Nat) : Prop := i < at_ ∨ at_ + cap < i
def Empt (v : Sect) : Prop := ∃ t, t < 4294967296 ∧ v = hdr t [] []
structure Bs (at_ cap n : Nat) (x : D) : Prop where
  wf : x.Wf
  len : x.vals.length = n
  fits : at_ + cap < n
/-- The sectors as a list of pairs wants them. -/
def psM (ps : Ps) (M : Nat → Sect) (i : Nat) : Sect := ((ps.find? fun p => decide (p.1 = (i : Int))).map (·.2)).getD (M i)
structure PsOk (at_ cap n : Nat) (ps : Ps) : Prop where
  rise : ps.Pairwise fun p q => p.1 < q.1
  each : ∀ p ∈ ps, (at_ : Int) + cap < p.1 ∧ p.1 < n ∧ p.2.length = 256
  cnt : ps.length ≤ cap
  cap : cap ≤ 100
  big : n ≤ 4096
theorem psM_in {at_ cap n : Nat} {ps : Ps} (h : PsOk at_ cap n ps) (M : Nat → Sect) {k : Nat} {p : Int × List UInt8} (hp : ps[k]? = some p) : psM ps M p.1.toNat = p.2 := by
  have hm := List.mem_of_getElem? hp
  have h0 := h.each p hm
  have hf : ps.find? (fun q => decide (q.1 = ((p.1.toNat : Nat) : Int))) = some p := by
    have key : ∀ (l : Ps), (l.Pairwise fun p q => p.1 < q.1) → p ∈ l → l.find? (fun q => decide (q.1 = p.1)) = some p := by
      intro l
      induction l with
      | nil => intro _ h; cases h
      | cons q l ih =>
        intro hs hm
        have hs := List.pairwise_cons.1 hs
        rcases List.mem_cons.1 hm with e | e
        · subst e; rw [List.find?_cons_of_pos (by simp)]
        · have := hs.1 p e
          rw [List.find?_cons_of_neg (by simp; omega)]
          exact ih hs.2 e
    rw [show ((p.1.toNat : Nat) : Int) = p.1 by omega]
    exact key ps h.rise hm
  unfold psM
  rw [hf]; rfl
theorem psM_out {ps : Ps} (M : Nat → Sect) {i : Nat} (h : ∀ p ∈ ps, p.1 ≠ (i : Int)) : psM ps M i = M i := by
  unfold psM
  rw [List.find?_eq_none.2 fun p hp => by simpa using h p hp]; rfl
theorem psM_low {at_ cap n : Nat} {ps : Ps} (h : PsOk at_ cap n ps) (M : Nat → Sect) {i : Nat} (hi : i ≤ at_ + cap) : psM ps M i = M i :=
  psM_out M fun p hp => by have := h.each p hp; omega
def AA (at_ cap n : Nat) (M : Nat → Sect) (x : D) : Prop := Bs at_ cap n x ∧ (∀ v ∈ x.S at_, Empt v) ∧ ∀ i, i < n → Hom at_ cap i → ∀ v ∈ x.S i, v = M i
def LogD (at_ : Nat) (ps : Ps) (x : D) : Prop := ∀ k p, ps[k]? = some p → ∀ v ∈ x.S (at_ + 1 + k), v = p.2
def H1 (t : Nat) (ps : Ps) : Sect := hdr t (psHomes ps) (psData ps)
def BB (at_ cap n : Nat) (M : Nat → Sect) (t : Nat) (ps : Ps) (x : D) : Prop := Bs at_ cap n x ∧ (∀ v ∈ x.S at_, Empt v ∨ v = H1 t ps) ∧ LogD at_ ps x ∧ ∀ i, i < n → Hom at_ cap i → ∀ v ∈ x.S i, v = M i
def CC (at_ cap n : Nat) (M : Nat → Sect) (t : Nat) (ps : Ps) (x : D) : Prop := Bs at_ cap n x ∧ (∀ v ∈ x.S at_, v = H1 t ps) ∧ LogD at_ ps x ∧ ∀ i, i < n → Hom at_ cap i → ∀ v ∈ x.S i, v = M i ∨ v = psM ps M i
def DD (at_ cap n : Nat) (M : Nat → Sect) (t : Nat) (ps : Ps) (x : D) : Prop := Bs at_ cap n x ∧ (∀ v ∈ x.S at_, v = H1 t ps ∨ v = hdr t [] []) ∧ LogD at_ ps x ∧ ∀ i, i < n → Hom at_ cap i → ∀ v ∈ x.S i, v = psM ps M i
/-- Somewhere in a commit. -/
def Mid (at_ cap n : Nat) (M : Nat → Sect) (t : Nat) (ps : Ps) (x : D) : Prop := AA at_ cap n M x ∨ BB at_ cap n M t ps x ∨ CC at_ cap n M t ps x ∨ DD at_ cap n M t ps x ∨ AA at_ cap n (psM ps M) x
section
variable {at_ cap n t : Nat} {M : Nat → Sect} {ps : Ps} {x x' : D}
theorem Bs.kept (h : Bs at_ cap n x) (k : Kept x x') : Bs at_ cap n x' := ⟨k.wf h.wf, by rw [k.vals]; exact h.len, h.fits⟩
theorem AA.kept (h : AA at_ cap n M x) (k : Kept x x') : AA at_ cap n M x' := ⟨h.1.kept k, fun v hv => h.2.1 v (by rw [← k.S]; exact hv), fun i hi ho v hv => h.2.2 i hi ho v (by rw [← k.S]; exact hv)⟩
theorem LogD.kept (h : LogD at_ ps x) (k : Kept x x') : LogD at_ ps x' := fun j p hp v hv => h j p hp v (by rw [← k.S]; exact hv)
theorem BB.kept (h : BB at_ cap n M t ps x) (k : Kept x x') : BB at_ cap n M t ps x' := ⟨h.1.kept k, fun v hv => h.2.1 v (by rw [← k.S]; exact hv), h.2.2.1.kept k, fun i hi ho v hv => h.2.2.2 i hi ho v (by rw [← k.S]; exact hv)⟩
theorem CC.kept (h : CC at_ cap n M t ps x) (k : Kept x x') : CC at_ cap n M t ps x' := ⟨h.1.kept k, fun v hv => h.2.1 v (by rw [← k.S]; exact hv), h.2.2.1.kept k, fun i hi ho v hv => h.2.2.2 i hi ho v (by rw [← k.S]; exact hv)⟩
theorem DD.kept (h : DD at_ cap n M t ps x) (k : Kept x x') : DD at_ cap n M t ps x' := ⟨h.1.kept k, fun v hv => h.2.1 v (by rw [← k.S]; exact hv), h.2.2.1.kept k, fun i hi ho v hv => h.2.2.2 i hi ho v (by rw [← k.S]; exact hv)⟩
theorem Bs.write (h : Bs at_ cap n x) {i : Nat} (hi : i < n) {b : List UInt8} (hb : b.length = 256) :
    ((x.write i b).1 = 10 ∧ Kept x (x.write i b).2) ∨ ((x.write i b).1 = 0 ∧ Bs at_ cap n (x.write i b).2 ∧ (x.write i b).2.S i = x.S i ++ [b] ∧ ∀ j, j ≠ i → (x.write i b).2.S j = x.S j) := by
  rcases write_plain h.wf (by rw [h.len]; exact hi) hb with g | ⟨g1, g2, g3, g4⟩
  · exact .inl g
  · exact .inr ⟨g1, ⟨g2, g3.trans h.len, h.fits⟩, g4⟩
theorem Bs.sync (h : Bs at_ cap n x) : (x.sync.1 = 10 ∧ Kept x x.sync.2) ∨ (x.sync.1 = 0 ∧ Bs at_ cap n x.sync.2 ∧ ∀ i, i < n → x.sync.2.S i = [x.latest i]) := by
  rcases sync_plain h.wf with g | ⟨g1, g2, g3, g4⟩
  · exact .inl g
  · exact .inr ⟨g1, ⟨g2, g3.trans h.len, h.fits⟩, fun i hi => g4 i (by rw [h.len]; exact hi)⟩
theorem Bs.latest (h : Bs at_ cap n x) {i : Nat} (hi : i < n) : x.latest i ∈ x.S i := D.latest_mem h.wf (by rw [h.len]; exact hi)
theorem latest_app {x : D} {i : Nat} {l : List Sect} {b : Sect} (h : x.S i = l ++ [b]) : x.latest i = b := by rw [D.latest_eq, h]; simp
theorem latest_same {x x' : D} {i : Nat} (h : x'.S i = x.S i) : x'.latest i = x.latest i := by rw [D.latest_eq, D.latest_eq, h]
theorem mem_app {l : List Sect} {b v : Sect} (h : v ∈ l ++ [b]) : v ∈ l ∨ v = b := (List.mem_append.1 h).imp id List.mem_singleton.1
/-! ### Bringing home -/
theorem psHomes_get {k : Nat} {p : Int × List UInt8} (hp : ps[k]? = some p) : (psHomes ps).getD k 0 = p.1.toNat := by unfold psHomes; rw [List.getD_eq_getElem?_getD, List.getElem?_map, hp]; rfl
theorem psData_chk (h : ∀ p ∈ ps, p.2.length = 256) {k : Nat} {p : Int × List UInt8} (hp : ps[k]? = some p) : chk (psData ps) k = p.2 := by
  have key : ∀ (l : Ps) (k : Nat), (∀ p ∈ l, p.2.length = 256) → l[k]? = some p → chk (psData l) k = p.2 := by
    intro l
    induction l with
    | nil => intro k _ h; simp at h
    | cons q l ih =>
      intro k h hk
      have hq := h q (List.mem_cons_self ..)
      have e : psData (q :: l) = q.2 ++ psData l := rfl
      unfold chk
      rw [e]
      cases k with
      | zero =>
        simp at hk; subst hk
        rw [Nat.zero_mul, List.drop_zero, List.take_left' hq]
      | succ k =>
        rw [show (k + 1) * 256 = q.2.length + k * 256 by omega, List.drop_length_add_append]
        exact ih k (fun p hp => h p (List.mem_cons_of_mem _ hp)) (by simpa using hk)
  exact key ps k h hp
theorem homes_inj (h : PsOk at_ cap n ps) {j k : Nat} {p q : Int × List UInt8} (hp : ps[j]? = some p) (hq : ps[k]? = some q) (e : p.1 = q.1) : j = k := by
  obtain ⟨g1, g2⟩ := List.getElem?_eq_some_iff.1 hp
  obtain ⟨g3, g4⟩ := List.getElem?_eq_some_iff.1 hq
  have hw := List.pairwise_iff_getElem.1 h.rise
  rcases Nat.lt_trichotomy j k with q | q | q
  · have := hw j k g1 g3 q; rw [g2, g4] at this; omega
  · exact q
  · have := hw k j g3 g1 q; rw [g2, g4] at this; omega
theorem home_tri (h : PsOk at_ cap n ps) (ht : t < 4294967296) :
    Tri (fun y => CC at_ cap n M t ps y.1) (homeS at_ t (psHomes ps) (psData ps)) (fun y => AA at_ cap n (psM ps M) y.1) (fun y => Mid at_ cap n M t ps y.1) := by
  have hlen : ∀ p ∈ ps, p.2.length = 256 := fun p hp => (h.each p hp).2.2
  have hfit := h.cnt
  have hcap := h.cap
  unfold homeS
  have hl0 : (homeS0 (psHomes ps) (psData ps)).length = ps.length := by unfold homeS0 psHomes; rw [List.length_map, List.length_range, List.length_map]
  refine Tri.app (Q := fun y => CC at_ cap n M t ps y.1 ∧ ∀ (j : Nat) p, ps[j]? = some p → y.1.latest p.1.toNat = p.2) ?_ ?_
  · have := Tri.many (P := fun k y => CC at_ cap n M t ps y.1 ∧ ∀ (j : Nat) p, j < k → ps[j]? = some p → y.1.latest p.1.toNat = p.2) (E := fun y => Mid at_ cap n M t ps y.1) (fs := homeS0 (psHomes ps) (psData ps)) fun k f hf => by
      have hk : k < ps.length := by rw [← hl0]; exact (List.getElem?_eq_some_iff.1 hf).1
      obtain ⟨p, hp⟩ : ∃ p, ps[k]? = some p := ⟨_, List.getElem?_eq_getElem hk⟩
      have hpe := h.each p (List.mem_of_getElem? hp)
      have hf2 : f = wrS (p.1.toNat : Nat) p.2 := by
        unfold homeS0 at hf
        rw [List.getElem?_map, List.getElem?_range (by unfold psHomes; rw [List.length_map]; exact hk), Option.map_some, psHomes_get hp, psData_chk hlen hp] at hf
        injection hf with hf; exact hf.symm
      subst hf2
      refine Tri.one fun y ⟨⟨hb, hh, hlg, hM⟩, hj⟩ => ?_
      rcases hb.write (i := p.1.toNat) (by omega) hpe.2.2 with ⟨e1, k1⟩ | ⟨e1, b1, s1, s2⟩
      · exact .inr ⟨e1, .inr (.inr (.inl (CC.kept ⟨hb, hh, hlg, hM⟩ k1)))⟩
      · refine .inl ⟨e1, ⟨b1, fun v hv => hh v ?_, fun j q hq v hv => hlg j q hq v ?_, fun i hi ho v hv => ?_⟩, fun j q hjk hq => ?_⟩
        · rwa [show (wrS ((p.1.toNat : Nat) : Int) p.2 y).2.1.S at_ = y.1.S at_ from s2 at_ (by omega)] at hv
        · have := (List.getElem?_eq_some_iff.1 hq).1
          rwa [show (wrS ((p.1.toNat : Nat) : Int) p.2 y).2.1.S (at_ + 1 + j) = y.1.S (at_ + 1 + j) from s2 (at_ + 1 + j) (by omega)] at hv
        · by_cases e : i = p.1.toNat
          · subst e
            rw [show (wrS ((p.1.toNat : Nat) : Int) p.2 y).2.1.S p.1.toNat = y.1.S p.1.toNat ++ [p.2] from s1] at hv
            rcases mem_app hv with hv | hv
            · exact hM _ hi ho v hv
            · exact .inr (by rw [hv, psM_in h M hp])
          · exact hM i hi ho v (by rwa [show (wrS ((p.1.toNat : Nat) : Int) p.2 y).2.1.S i = y.1.S i from s2 i e] at hv)
        · by_cases e : j = k
          · subst e; rw [hp] at hq; injection hq with hq; subst hq; exact latest_app s1
          · have hne : q.1.toNat ≠ p.1.toNat := fun e2 => e (homes_inj h hq hp (by have := h.each q (List.mem_of_getElem? hq); omega))
            rw [show (wrS ((p.1.toNat : Nat) : Int) p.2 y).2.1.latest q.1.toNat = y.1.latest q.1.toNat from latest_same (s2 _ hne)]
            exact hj j q (by omega) hq
    refine this.weak (fun y hy => ⟨hy, fun j p hj => absurd hj (Nat.not_lt_zero j)⟩) (fun y hy => ⟨hy.1, fun j p hp => hy.2 j p (by rw [hl0]; exact (List.getElem?_eq_some_iff.1 hp).1) hp⟩) (fun y hy => hy)
  · refine Tri.cons (Q := fun y => DD at_ cap n M t ps y.1) (Tri.one fun y ⟨⟨hb, hh, hlg, hM⟩, hj⟩ => ?_) (Tri.cons (Q := fun y => DD at_ cap n M t ps y.1 ∧ y.1.latest at_ = hdr t [] []) (Tri.one fun y ⟨hb, hh, hlg, hM⟩ => ?_) (Tri.one fun y ⟨⟨hb, hh, hlg, hM⟩, hla⟩ => ?_))
    · rcases hb.sync with ⟨e1, k1⟩ | ⟨e1, b1, s1⟩
      · exact .inr ⟨e1, .inr (.inr (.inl (CC.kept ⟨hb, hh, hlg, hM⟩ k1)))⟩
      · have hf := hb.fits
        refine .inl ⟨e1, b1, fun v hv => .inl ?_, fun j p hp v hv => ?_, fun i hi ho v hv => ?_⟩
        · rw [show (syS y).2.1.S at_ = [y.1.latest at_] from s1 at_ (by omega)] at hv
          rw [List.mem_singleton.1 hv]; exact hh _ (hb.latest (by omega))
        · have hjl := (List.getElem?_eq_some_iff.1 hp).1
          rw [show (syS y).2.1.S (at_ + 1 + j) = [y.1.latest (at_ + 1 + j)] from s1 _ (by omega)] at hv
          rw [List.mem_singleton.1 hv]; exact hlg j p hp _ (hb.latest (by omega))
        · rw [show (syS y).2.1.S i = [y.1.latest i] from s1 i hi] at hv
          rw [List.mem_singleton.1 hv]
          by_cases q : ∃ p ∈ ps, p.1 = (i : Int)
          · obtain ⟨p, hp, e⟩ := q
            obtain ⟨j, hj2⟩ := List.mem_iff_getElem?.1 hp
            have := hj j p hj2
            rw [show p.1.toNat = i by omega] at this
            rw [this, ← psM_in h M hj2, show p.1.toNat = i by omega]
          · rcases hM i hi ho _ (hb.latest hi) with e | e
            · rw [e, psM_out M fun p hp q2 => q ⟨p, hp, q2⟩]
            · exact e
    · have hf := hb.fits
      rcases hb.write (i := at_) (by omega) (b := hdr t [] []) (hdr_len _ _ _ (by decide)) with ⟨e1, k1⟩ | ⟨e1, b1, s1, s2⟩
      · exact .inr ⟨e1, .inr (.inr (.inr (.inl (DD.kept ⟨hb, hh, hlg, hM⟩ k1))))⟩
      · refine .inl ⟨e1, ⟨b1, fun v hv => ?_, fun j p hp v hv => hlg j p hp v ?_, fun i hi ho v hv => hM i hi ho v ?_⟩, latest_app s1⟩
        · rw [show (wrS (at_ : Nat) (hdr t [] []) y).2.1.S at_ = y.1.S at_ ++ [hdr t [] []] from s1] at hv
          rcases mem_app hv with hv | hv
          · exact hh v hv
          · exact .inr hv
        · rwa [show (wrS (at_ : Nat) (hdr t [] []) y).2.1.S (at_ + 1 + j) = y.1.S (at_ + 1 + j) from s2 _ (by omega)] at hv
        · rwa [show (wrS (at_ : Nat) (hdr t [] []) y).2.1.S i = y.1.S i from s2 _ (by unfold Hom at ho; omega)] at hv
    · rcases hb.sync with ⟨e1, k1⟩ | ⟨e1, b1, s1⟩
      · exact .inr ⟨e1, .inr (.inr (.inr (.inl (DD.kept ⟨hb, hh, hlg, hM⟩ k1))))⟩
      · have hf := hb.fits
        refine .inl ⟨e1, b1, fun v hv => ⟨t, ht, ?_⟩, fun i hi ho v hv => ?_⟩
        · rw [show (syS y).2.1.S at_ = [y.1.latest at_] from s1 at_ (by omega)] at hv
          rw [List.mem_singleton.1 hv]; exact hla
        · rw [show (syS y).2.1.S i = [y.1.latest i] from s1 i hi] at hv
          rw [List.mem_singleton.1 hv]; exact hM i hi ho _ (hb.latest hi)
end
end Go.Sl
/- Plain law of a log: a commit's steps; a crash. -/
namespace Go.Sl
open Go.Proofs

section
variable {at_ cap n t : Nat} {M : Nat → Sect} {ps : Ps} {x x' : D}
theorem Tri.wr {P Q E : D → Prop} {i : Nat} {b : List UInt8} (hP : ∀ x, P x → Bs at_ cap n x) (hi : i < n) (hb : b.length = 256)
    (hQ : ∀ x x', P x → Bs at_ cap n x' → x'.S i = x.S i ++ [b] → (∀ j, j ≠ i → x'.S j = x.S j) → Q x') (hE : ∀ x x', P x → Kept x x' → E x') :
    Tri (fun y => P y.1) [wrS (i : Nat) b] (fun y => Q y.1) (fun y => E y.1) := Tri.one fun y hy => by
  rcases (hP _ hy).write hi hb with ⟨e1, k1⟩ | ⟨e1, b1, s1, s2⟩
  · exact .inr ⟨e1, hE _ _ hy k1⟩
  · exact .inl ⟨e1, hQ _ _ hy b1 s1 s2⟩
theorem Tri.sy {P Q E : D → Prop} (hP : ∀ x, P x → Bs at_ cap n x) (hQ : ∀ x x', P x → Bs at_ cap n x' → (∀ i, i < n → x'.S i = [x.latest i]) → Q x') (hE : ∀ x x', P x → Kept x x' → E x') :
    Tri (fun y => P y.1) [syS] (fun y => Q y.1) (fun y => E y.1) := Tri.one fun y hy => by
  rcases (hP _ hy).sync with ⟨e1, k1⟩ | ⟨e1, b1, s1⟩
  · exact .inr ⟨e1, hE _ _ hy k1⟩
  · exact .inl ⟨e1, hQ _ _ hy b1 s1⟩
theorem logP_get {k : Nat} {f : WS → Int × WS} (hf : (logP at_ ps)[k]? = some f) : ∃ p, ps[k]? = some p ∧ f = wrS ((at_ + 1 + k : Nat) : Int) p.2 := by
  have hk : k < ps.length := by
    have := (List.getElem?_eq_some_iff.1 hf).1
    unfold logP at this
    rwa [List.length_map, List.length_range] at this
  refine ⟨_, List.getElem?_eq_getElem hk, ?_⟩
  unfold logP at hf
  rw [List.getElem?_map, List.getElem?_range hk, Option.map_some, List.getD_eq_getElem?_getD, List.getElem?_eq_getElem hk, show (at_ : Int) + 1 + (k : Int) = ((at_ + 1 + k : Nat) : Int) by omega] at hf
  injection hf with hf
  exact hf.symm
theorem logP_len : (logP at_ ps).length = ps.length := by unfold logP; rw [List.length_map, List.length_range]
theorem H1_len (h : PsOk at_ cap n ps) : (H1 t ps).length = 256 := by
  have h1 := h.cnt
  have h2 := h.cap
  exact hdr_len _ _ _ (by unfold psHomes; rw [List.length_map]; omega)
theorem commit_tri (h : PsOk at_ cap n ps) (t : Nat) :
    Tri (fun y => AA at_ cap n M y.1) (stepsP at_ t ps) (fun y => AA at_ cap n (psM ps M) y.1) (fun y => Mid at_ cap n M (turnUp t) ps y.1) := by
  have hcnt := h.cnt
  have hcap := h.cap
  have htu : turnUp t < 4294967296 := Nat.mod_lt _ (by decide)
  unfold stepsP
  refine Tri.app (Q := fun y => AA at_ cap n M y.1 ∧ ∀ (j : Nat) p, ps[j]? = some p → y.1.latest (at_ + 1 + j) = p.2) ?_ ?_
  · have := Tri.many (P := fun k y => AA at_ cap n M y.1 ∧ ∀ (j : Nat) p, j < k → ps[j]? = some p → y.1.latest (at_ + 1 + j) = p.2) (E := fun y => Mid at_ cap n M (turnUp t) ps y.1) (fs := logP at_ ps) fun k f hf => by
      obtain ⟨p, hp, rfl⟩ := logP_get hf
      have hk := (List.getElem?_eq_some_iff.1 hp).1
      intro y hy
      have hfit := hy.1.1.fits
      refine Tri.wr (at_ := at_) (cap := cap) (n := n) (P := fun x => AA at_ cap n M x ∧ ∀ (j : Nat) p, j < k → ps[j]? = some p → x.latest (at_ + 1 + j) = p.2) (Q := fun x => AA at_ cap n M x ∧ ∀ (j : Nat) p, j < k + 1 → ps[j]? = some p → x.latest (at_ + 1 + j) = p.2) (E := fun x => Mid at_ cap n M (turnUp t) ps x)
        (fun x hx => hx.1.1) (by omega) (h.each p (List.mem_of_getElem? hp)).2.2 (fun x x' hx b1 s1 s2 => ⟨⟨b1, fun v hv => hx.1.2.1 v ?_, fun i hi ho v hv => hx.1.2.2 i hi ho v ?_⟩, fun j q hjk hq => ?_⟩) (fun x x' hx k1 => .inl (hx.1.kept k1)) y hy
      · rwa [s2 _ (by omega)] at hv
      · rwa [s2 _ (by unfold Hom at ho; omega)] at hv
      · by_cases e : j = k
        · subst e; rw [hp] at hq; injection hq with hq; subst hq; exact latest_app s1
        · rw [latest_same (s2 _ (by omega))]; exact hx.2 j q (by omega) hq
    rw [logP_len] at this
    exact this.weak (fun y hy => ⟨hy, fun j p hj => absurd hj (Nat.not_lt_zero j)⟩) (fun y hy => ⟨hy.1, fun j p hp => hy.2 j p (List.getElem?_eq_some_iff.1 hp).1 hp⟩) (fun y hy => hy)
  · intro y0 hy0
    have hfit := hy0.1.1.fits
    refine Tri.cons (Q := fun y => AA at_ cap n M y.1 ∧ LogD at_ ps y.1) (Tri.sy (at_ := at_) (cap := cap) (n := n) (P := fun x => AA at_ cap n M x ∧ ∀ (j : Nat) p, ps[j]? = some p → x.latest (at_ + 1 + j) = p.2) (Q := fun x => AA at_ cap n M x ∧ LogD at_ ps x) (E := fun x => Mid at_ cap n M (turnUp t) ps x)
        (fun x hx => hx.1.1) (fun x x' hx b1 s1 => ⟨⟨b1, fun v hv => ?_, fun i hi ho v hv => ?_⟩, fun j p hp v hv => ?_⟩) (fun x x' hx k1 => .inl (hx.1.kept k1)))
      (Tri.cons (Q := fun y => BB at_ cap n M (turnUp t) ps y.1 ∧ y.1.latest at_ = H1 (turnUp t) ps) (Tri.wr (at_ := at_) (cap := cap) (n := n) (P := fun x => AA at_ cap n M x ∧ LogD at_ ps x) (Q := fun x => BB at_ cap n M (turnUp t) ps x ∧ x.latest at_ = H1 (turnUp t) ps) (E := fun x => Mid at_ cap n M (turnUp t) ps x)
        (fun x hx => hx.1.1) (by omega) (H1_len h) (fun x x' hx b1 s1 s2 => ⟨⟨b1, fun v hv => ?_, fun j p hp v hv => hx.2 j p hp v ?_, fun i hi ho v hv => hx.1.2.2 i hi ho v ?_⟩, latest_app s1⟩) (fun x x' hx k1 => .inl (hx.1.kept k1)))
      (Tri.cons (Q := fun y => CC at_ cap n M (turnUp t) ps y.1) (Tri.sy (at_ := at_) (cap := cap) (n := n) (P := fun x => BB at_ cap n M (turnUp t) ps x ∧ x.latest at_ = H1 (turnUp t) ps) (Q := fun x => CC at_ cap n M (turnUp t) ps x) (E := fun x => Mid at_ cap n M (turnUp t) ps x)
        (fun x hx => hx.1.1) (fun x x' hx b1 s1 => ⟨b1, fun v hv => ?_, fun j p hp v hv => ?_, fun i hi ho v hv => .inl ?_⟩) (fun x x' hx k1 => .inr (.inl (hx.1.kept k1))))
      (Tri.cons (Q := fun y => CC at_ cap n M (turnUp t) ps y.1) (Tri.one fun y hy => .inl ⟨rfl, hy⟩) (home_tri h htu)))) y0 hy0
    · rw [s1 at_ (by omega)] at hv
      rw [List.mem_singleton.1 hv]; exact hx.1.2.1 _ (hx.1.1.latest (by omega))
    · rw [s1 i hi] at hv
      rw [List.mem_singleton.1 hv]; exact hx.1.2.2 i hi ho _ (hx.1.1.latest hi)
    · have hjl := (List.getElem?_eq_some_iff.1 hp).1
      rw [s1 _ (by omega)] at hv
      rw [List.mem_singleton.1 hv]; exact hx.2 j p hp
    · rw [s1] at hv
      exact (mem_app hv).imp (hx.1.2.1 v) id
    · rwa [s2 _ (by omega)] at hv
    · rwa [s2 _ (by unfold Hom at ho; omega)] at hv
    · rw [s1 at_ (by omega)] at hv
      rw [List.mem_singleton.1 hv]; exact hx.2
    · have hjl := (List.getElem?_eq_some_iff.1 hp).1
      rw [s1 _ (by omega)] at hv
      rw [List.mem_singleton.1 hv]; exact hx.1.2.2.1 j p hp _ (hx.1.1.latest (by omega))
    · rw [s1 i hi] at hv
      rw [List.mem_singleton.1 hv]; exact hx.1.2.2.2 i hi ho _ (hx.1.1.latest hi)
/-! ### A crash -/
theorem mem_one {l : List Sect} {u v : Sect} (h : l = [u]) (hv : v ∈ l) : v = u := by subst h; exact List.mem_singleton.1 hv
theorem crash_bs (h : Bs at_ cap n x) (p : List Int) : Bs at_ cap n (x.crash p) := by
  obtain ⟨g1, g2, _⟩ := crash_plain h.wf p
  exact ⟨g1, g2.trans h.len, h.fits⟩
/-- A sector behind a crash: one value, and one that it had. -/
theorem crash_one (h : Bs at_ cap n x) (p : List Int) {i : Nat} (hi : i < n) : ∃ u, u ∈ x.S i ∧ ∀ v ∈ (x.crash p).S i, v = u := by
  obtain ⟨u, hu, e⟩ := (crash_plain h.wf p).2.2.2.2 i (by rw [h.len]; exact hi)
  exact ⟨u, hu, fun v hv => mem_one e hv⟩
theorem crash_mem (h : Bs at_ cap n x) (p : List Int) {i : Nat} (hi : i < n) {v : Sect} (hv : v ∈ (x.crash p).S i) : v ∈ x.S i := by
  obtain ⟨u, hu, e⟩ := crash_one h p hi
  rw [e v hv]; exact hu
theorem AA.crash (h : AA at_ cap n M x) (p : List Int) : AA at_ cap n M (x.crash p) :=
  ⟨crash_bs h.1 p, fun v hv => h.2.1 v (crash_mem h.1 p (by have := h.1.fits; omega) hv), fun i hi ho v hv => h.2.2 i hi ho v (crash_mem h.1 p hi hv)⟩
theorem LogD.crash (h : LogD at_ ps x) (hb : Bs at_ cap n x) (hc : ps.length ≤ cap) (p : List Int) : LogD at_ ps (x.crash p) := fun j q hq v hv =>
  h j q hq v (crash_mem hb p (by have := hb.fits; have := (List.getElem?_eq_some_iff.1 hq).1; omega) hv)
theorem Mid.crash (ho : PsOk at_ cap n ps) (ht : t < 4294967296) (h : Mid at_ cap n M t ps x) (p : List Int) : AA at_ cap n M (x.crash p) ∨ CC at_ cap n M t ps (x.crash p) ∨ AA at_ cap n (psM ps M) (x.crash p) := by
  have hcnt := ho.cnt
  rcases h with h | ⟨hb, hh, hl, hM⟩ | ⟨hb, hh, hl, hM⟩ | ⟨hb, hh, hl, hM⟩ | h
  · exact .inl (h.crash p)
  · obtain ⟨u, hu, e⟩ := crash_one hb p (i := at_) (by have := hb.fits; omega)
    rcases hh u hu with q | q
    · exact .inl ⟨crash_bs hb p, fun v hv => by rw [e v hv]; exact q, fun i hi ho v hv => hM i hi ho v (crash_mem hb p hi hv)⟩
    · exact .inr (.inl ⟨crash_bs hb p, fun v hv => by rw [e v hv]; exact q, hl.crash hb hcnt p, fun i hi ho v hv => .inl (hM i hi ho v (crash_mem hb p hi hv))⟩)
  · exact .inr (.inl ⟨crash_bs hb p, fun v hv => hh v (crash_mem hb p (by have := hb.fits; omega) hv), hl.crash hb hcnt p, fun i hi ho v hv => hM i hi ho v (crash_mem hb p hi hv)⟩)
  · obtain ⟨u, hu, e⟩ := crash_one hb p (i := at_) (by have := hb.fits; omega)
    rcases hh u hu with q | q
    · exact .inr (.inl ⟨crash_bs hb p, fun v hv => by rw [e v hv]; exact q, hl.crash hb hcnt p, fun i hi ho v hv => .inr (hM i hi ho v (crash_mem hb p hi hv))⟩)
    · refine .inr (.inr ⟨crash_bs hb p, fun v hv => ⟨t, ht, by rw [e v hv, q]⟩, fun i hi ho v hv => hM i hi ho v (crash_mem hb p hi hv)⟩)
  · exact .inr (.inr (h.crash p))
end
end Go.Sl
/- Plain law of a log: what a header says; an opening. -/
namespace Go.Sl
open Go.Proofs

theorem num_mid {a m c : List UInt8} {i s : Nat} (ha : a.length = i) (hm : m.length = s) : num (a ++ (m ++ c)) i s = leN m := by
  unfold num
  rw [List.drop_left' ha, List.take_left' hm]
theorem hdr_turn (t : Nat) (homes : List Nat) (data : List UInt8) : num (hdr t homes data) 4 4 = t % 4294967296 := by
  unfold hdr hdr0
  simp only [List.append_assoc]
  exact (num_mid rfl (leB_len _ _)).trans (leN_leB 4 t)
theorem hdr_cnt (t : Nat) (homes : List Nat) (data : List UInt8) : num (hdr t homes data) 8 2 = homes.length % 65536 := by
  unfold hdr hdr0
  rw [List.append_assoc, List.append_assoc, List.append_assoc]
  exact (num_mid (by rw [List.length_append, leB_len]; rfl) (leB_len _ _)).trans (leN_leB 2 _)
theorem hdr_home (t : Nat) (homes : List Nat) (data : List UInt8) {i h : Nat} (hi : homes[i]? = some h) : num (hdr t homes data) (10 + 2 * i) 2 = h % 65536 := by
  have hk := (List.getElem?_eq_some_iff.1 hi).1
  have e : homes.flatMap (leB 2) = (homes.take i).flatMap (leB 2) ++ (leB 2 h ++ (homes.drop (i + 1)).flatMap (leB 2)) := by
    have e1 : homes = homes.take i ++ h :: homes.drop (i + 1) := by
      rw [← (List.getElem?_eq_some_iff.1 hi).2, List.getElem_cons_drop, List.take_append_drop]
    conv => lhs; rw [e1]
    rw [List.flatMap_append, List.flatMap_cons]
  unfold hdr hdr0
  rw [e]
  have e2 : ∀ (a b c d f g k : List UInt8), a ++ b ++ c ++ (d ++ (f ++ g)) ++ k = a ++ b ++ c ++ d ++ (f ++ (g ++ k)) := fun a b c d f g k => by simp only [List.append_assoc]
  rw [e2, List.append_assoc _ (leB 2 h ++ _), List.append_assoc (leB 2 h)]
  refine (num_mid ?_ (leB_len _ _)).trans (leN_leB 2 _)
  simp only [List.length_append, leB_len, flat2_len, List.length_take, List.length_cons, List.length_nil]; omega
theorem hdr_homes (t : Nat) (homes : List Nat) (data : List UInt8) (hk : homes.length < 65536) (hh : ∀ h ∈ homes, h < 65536) : D.homesOf (hdr t homes data) = homes := by
  unfold D.homesOf
  rw [hdr_cnt, Nat.mod_eq_of_lt hk]
  refine List.ext_getElem? fun i => ?_
  rw [List.getElem?_map]
  by_cases hi : i < homes.length
  · rw [List.getElem?_range hi, Option.map_some, hdr_home t homes data (List.getElem?_eq_getElem hi), List.getElem?_eq_getElem hi, Nat.mod_eq_of_lt (hh _ (List.getElem_mem hi))]
  · rw [List.getElem?_eq_none (by rw [List.length_range]; omega), List.getElem?_eq_none (by omega)]; rfl
theorem rises_of {l : List Nat} (h : l.Pairwise (· < ·)) : rises l = true := by
  induction l with
  | nil => rfl
  | cons a l ih =>
    cases l with
    | nil => rfl
    | cons b l =>
      have h1 := List.pairwise_cons.1 h
      unfold rises
      rw [ih h1.2, decide_eq_true (h1.1 b (List.mem_cons_self ..))]; rfl
section
variable {at_ cap n t : Nat} {M : Nat → Sect} {ps : Ps} {x x' : D}
theorem psHomes_rise (h : PsOk at_ cap n ps) : rises (psHomes ps) = true := by
  refine rises_of ?_
  unfold psHomes
  rw [List.pairwise_map, List.pairwise_iff_getElem]
  intro i j hi hj hij
  have h1 := List.pairwise_iff_getElem.1 h.rise i j hi hj hij
  have h2 := h.each _ (List.getElem_mem hi)
  omega
theorem psData_eq (h : ∀ (j : Nat) p, ps[j]? = some p → x.latest (at_ + 1 + j) = p.2) : ((List.range ps.length).flatMap fun i => x.latest (at_ + 1 + i)) = psData ps := by
  have e : (List.range ps.length).map (fun i => x.latest (at_ + 1 + i)) = ps.map (·.2) := by
    refine List.ext_getElem? fun i => ?_
    rw [List.getElem?_map, List.getElem?_map]
    by_cases hi : i < ps.length
    · rw [List.getElem?_range hi, List.getElem?_eq_getElem hi, Option.map_some, Option.map_some, h i _ (List.getElem?_eq_getElem hi)]
    · rw [List.getElem?_eq_none (by rw [List.length_range]; omega), List.getElem?_eq_none (by omega)]; rfl
  unfold psData
  rw [List.flatMap_def, e, List.flatMap_def]
/-- What a log with these pairs reads as. -/
theorem logged_of (h : PsOk at_ cap n ps) (hc : 1 ≤ cap) (hb : Bs at_ cap n x) (ho : x.off = false) (ht : t < 4294967296) (hl : x.latest at_ = H1 t ps) (hd : ∀ (j : Nat) p, ps[j]? = some p → x.latest (at_ + 1 + j) = p.2) :
    x.logged at_ cap = ⟨0, t, psHomes ps, psData ps⟩ := by
  have hfit := hb.fits
  have hlen := hb.len
  have hcap := h.cap
  have hcnt := h.cnt
  have hbig := h.big
  have hhl : (psHomes ps).length = ps.length := by unfold psHomes; rw [List.length_map]
  have hp : x.logPlace at_ cap := by unfold D.logPlace; omega
  have hr := read_at ho (at_ := at_) (by omega) (by omega)
  rw [Int.toNat_natCast, hl] at hr
  have hhm : ∀ k ∈ psHomes ps, at_ + cap < k ∧ k < n := fun k hk => by
    unfold psHomes at hk
    obtain ⟨p, hp, rfl⟩ := List.mem_map.1 hk
    have := h.each p hp
    omega
  have h1 : D.homesOf (H1 t ps) = psHomes ps := hdr_homes _ _ _ (by omega) fun k hk => by have := hhm k hk; omega
  have h2 : num (H1 t ps) 4 4 = t := (hdr_turn _ _ _).trans (Nat.mod_eq_of_lt ht)
  have h3 : num (H1 t ps) 8 2 = ps.length := (hdr_cnt _ _ _).trans (by rw [hhl]; exact Nat.mod_eq_of_lt (by omega))
  have h4 : x.dataOf at_ (H1 t ps) = psData ps := by unfold D.dataOf; rw [h3]; exact psData_eq hd
  unfold D.logged
  rw [if_neg (not_not_intro hp), hr, if_neg (by simp), Int.toNat_natCast]
  dsimp only
  rw [h1, h2, h3, h4, if_neg (by omega), if_neg ?_]
  rintro (q | q | q)
  · obtain ⟨k, hk, e⟩ := List.any_eq_true.1 q
    have := hhm k hk
    have := of_decide_eq_true e
    omega
  · rw [psHomes_rise h] at q; cases q
  · exact q rfl
theorem PsOk.nil (hc : cap ≤ 100) (hn : n ≤ 4096) : PsOk at_ cap n [] := ⟨.nil, (fun p hp => by cases hp), Nat.zero_le _, hc, hn⟩
theorem AA.logged (h : AA at_ cap n M x) (h1 : 1 ≤ cap) (hc : cap ≤ 100) (hn : n ≤ 4096) (ho : x.off = false) : ∃ t, t < 4294967296 ∧ x.latest at_ = hdr t [] [] ∧ x.logged at_ cap = ⟨0, t, [], []⟩ := by
  obtain ⟨t, ht, e⟩ := h.2.1 _ (h.1.latest (by have := h.1.fits; omega))
  exact ⟨t, ht, e, logged_of (ps := []) (PsOk.nil hc hn) h1 h.1 ho ht e fun j p hp => by simp at hp⟩
theorem AA.openD (h : AA at_ cap n M x) (h1 : 1 ≤ cap) (hc : cap ≤ 100) (hn : n ≤ 4096) (ho : x.off = false) : x.openD at_ cap = (0, x) := by
  obtain ⟨t, _, _, e⟩ := h.logged h1 hc hn ho
  unfold D.openD
  rw [e, if_neg (by simp), if_pos rfl]
theorem CC.logged (h : CC at_ cap n M t ps x) (hp : PsOk at_ cap n ps) (h1 : 1 ≤ cap) (ho : x.off = false) (ht : t < 4294967296) : x.logged at_ cap = ⟨0, t, psHomes ps, psData ps⟩ := by
  obtain ⟨hb, hh, hl, _⟩ := h
  have hfit := hb.fits
  have hcnt := hp.cnt
  exact logged_of hp h1 hb ho ht (hh _ (hb.latest (by omega))) fun j p hj => hl j p hj _ (hb.latest (by have := (List.getElem?_eq_some_iff.1 hj).1; omega))
theorem CC.openD (h : CC at_ cap n M t ps x) (hp : PsOk at_ cap n ps) (h1 : 1 ≤ cap) (ho : x.off = false) (ht : t < 4294967296) :
    ((x.openD at_ cap).1 = 0 ∧ AA at_ cap n (psM ps M) (x.openD at_ cap).2) ∨ ((x.openD at_ cap).1 = 10 ∧ Mid at_ cap n M t ps (x.openD at_ cap).2) := by
  unfold D.openD
  rw [h.logged hp h1 ho ht, if_neg (by simp)]
  by_cases q : psHomes ps = []
  · rw [if_pos q]
    have e : ps = [] := List.map_eq_nil_iff.1 q
    subst e
    exact .inl ⟨rfl, h.1, fun v hv => ⟨t, ht, h.2.1 v hv⟩, fun i hi ho v hv => by rcases h.2.2.2 i hi ho v hv with e | e <;> exact e⟩
  · rw [if_neg q]
    have := home_tri (M := M) hp ht (x, 0) h
    by_cases e : (runSt (homeS at_ t (psHomes ps) (psData ps)) (x, 0)).1 = 0
    · exact .inl ⟨e, this.1 e⟩
    · exact .inr (this.2 e)
/-- Behind a crash: a log opens on what it was, or on what it is to be; or the power goes. -/
theorem Mid.openD (h : Mid at_ cap n M t ps x) (hp : PsOk at_ cap n ps) (h1 : 1 ≤ cap) (ht : t < 4294967296) (p : List Int) (hk : Kept (x.crash p) x') (ho : x'.off = false) :
    ((x'.openD at_ cap).1 = 0 ∧ (AA at_ cap n M (x'.openD at_ cap).2 ∨ AA at_ cap n (psM ps M) (x'.openD at_ cap).2)) ∨ ((x'.openD at_ cap).1 = 10 ∧ Mid at_ cap n M t ps (x'.openD at_ cap).2) := by
  rcases h.crash hp ht p with g | g | g
  · rw [(g.kept hk).openD h1 hp.cap hp.big ho]
    exact .inl ⟨rfl, .inl (g.kept hk)⟩
  · rcases (g.kept hk).openD hp h1 ho ht with ⟨a, b⟩ | ⟨a, b⟩
    · exact .inl ⟨a, .inr b⟩
    · exact .inr ⟨a, b⟩
  · rw [(g.kept hk).openD h1 hp.cap hp.big ho]
    exact .inl ⟨rfl, .inr (g.kept hk)⟩
end
end Go.Sl
/- Plain law of a log: what a disk without a limit takes. -/
namespace Go.Sl
open Go.Proofs

/-- No limit; the power is on; so many operations went. -/
structure Un (m : Int) (x : D) : Prop where
  off : x.off = false
  left : x.left = -1
  taken : x.taken = m
theorem un_take {m : Int} {x : D} (h : Un m x) (h0 : 0 ≤ m) (h1 : m < 1000000000000) : x.take.1 = true ∧ Un (m + 1) x.take.2 := by
  unfold D.take
  have h2 := h.off
  have h3 := h.left
  have h4 := h.taken
  rw [if_neg (by rw [h2, h3]; simp)]
  refine ⟨rfl, h2, ?_, ?_⟩
  · show max (-1) (x.left - 1) = -1; omega
  · show IntKind.i64.wrap (x.taken + 1) = m + 1
    rw [h4, IntWalk.i64_in _ (by omega)]
theorem un_write {m : Int} {x : D} (h : Un m x) (h0 : 0 ≤ m) (h1 : m < 1000000000000) {i : Nat} (hi : i < x.vals.length) {b : List UInt8} (hb : b.length = 256) :
    (x.write i b).1 = 0 ∧ Un (m + 1) (x.write i b).2 ∧ (x.write i b).2.vals.length = x.vals.length := by
  obtain ⟨e, u⟩ := un_take h h0 h1
  unfold D.write
  rw [if_neg (by omega), if_neg (by omega), if_neg (by rw [e]; decide)]
  refine ⟨rfl, ⟨u.off, u.left, u.taken⟩, ?_⟩
  show (x.take.2.vals.set _ _).length = _
  rw [List.length_set, take_vals]
theorem un_sync {m : Int} {x : D} (h : Un m x) (h0 : 0 ≤ m) (h1 : m < 1000000000000) : x.sync.1 = 0 ∧ Un (m + 1) x.sync.2 ∧ x.sync.2.vals.length = x.vals.length := by
  obtain ⟨e, u⟩ := un_take h h0 h1
  unfold D.sync
  rw [if_pos e]
  refine ⟨rfl, ⟨u.off, u.left, u.taken⟩, ?_⟩
  show (settleL _ x.take.2.vals ()).1.length = _
  rw [settleL_length, take_vals]
def UP (n : Nat) (m : Int) (t : Int) (y : WS) : Prop := y.1.vals.length = n ∧ Un m y.1 ∧ y.2 = t
def No (_ : WS) : Prop := False
section
variable {n : Nat} {m t : Int}
theorem Tri.wrU (h0 : 0 ≤ m) (h1 : m < 1000000000000) {i : Nat} (hi : i < n) {b : List UInt8} (hb : b.length = 256) : Tri (UP n m t) [wrS (i : Nat) b] (UP n (m + 1) t) No := Tri.one fun y ⟨g1, g2, g3⟩ => by
  obtain ⟨a, b, c⟩ := un_write g2 h0 h1 (i := i) (by rw [g1]; exact hi) hb
  exact .inl ⟨a, c.trans g1, b, g3⟩
theorem Tri.syU (h0 : 0 ≤ m) (h1 : m < 1000000000000) : Tri (UP n m t) [syS] (UP n (m + 1) t) No := Tri.one fun y ⟨g1, g2, g3⟩ => by
  obtain ⟨a, b, c⟩ := un_sync g2 h0 h1
  exact .inl ⟨a, c.trans g1, b, g3⟩
theorem un_empty (h0 : 0 ≤ m) (h1 : m < 500000000000) {at_ : Nat} (hi : at_ < n) (t' : Nat) : Tri (UP n m t) (emptyS at_ t') (UP n (m + 2) t) No :=
  Tri.cons (Tri.wrU h0 (by omega) hi (hdr_len _ _ _ (by decide))) (by rw [show m + 2 = m + 1 + 1 by omega]; exact Tri.syU (by omega) (by omega))
theorem un_home {at_ cap : Nat} {ps : Ps} (h : PsOk at_ cap n ps) (hf : at_ + cap < n) (t' : Nat) (h0 : 0 ≤ m) (h1 : m < 100000000000) : Tri (UP n m t) (homeS at_ t' (psHomes ps) (psData ps)) (UP n (m + ps.length + 3) t) No := by
  have hlen : ∀ p ∈ ps, p.2.length = 256 := fun p hp => (h.each p hp).2.2
  have hcnt := h.cnt
  have hcap := h.cap
  unfold homeS
  have hl0 : (homeS0 (psHomes ps) (psData ps)).length = ps.length := by unfold homeS0 psHomes; rw [List.length_map, List.length_range, List.length_map]
  have a := Tri.many (P := fun k y => UP n (m + k) t y) (E := No) (fs := homeS0 (psHomes ps) (psData ps)) fun k f hf => by
    have hk : k < ps.length := by rw [← hl0]; exact (List.getElem?_eq_some_iff.1 hf).1
    obtain ⟨p, hp⟩ : ∃ p, ps[k]? = some p := ⟨_, List.getElem?_eq_getElem hk⟩
    have hpe := h.each p (List.mem_of_getElem? hp)
    have hf2 : f = wrS (p.1.toNat : Nat) p.2 := by
      unfold homeS0 at hf
      rw [List.getElem?_map, List.getElem?_range (by unfold psHomes; rw [List.length_map]; exact hk), Option.map_some, psHomes_get hp, psData_chk hlen hp] at hf
      injection hf with hf; exact hf.symm
    subst hf2
    have := Tri.wrU (n := n) (m := m + k) (t := t) (by omega) (by omega) (i := p.1.toNat) (by omega) hpe.2.2
    rwa [show m + (k : Int) + 1 = m + ((k + 1 : Nat) : Int) by omega] at this
  rw [hl0] at a
  refine Tri.app (a.weak (fun y hy => by rw [show m + ((0 : Nat) : Int) = m by omega]; exact hy) (fun y hy => hy) (fun y hy => hy)) (Tri.cons (Tri.syU (by omega) (by omega)) ?_)
  have := un_empty (n := n) (m := m + ps.length + 1) (t := t) (by omega) (by omega) (at_ := at_) (by omega) t'
  rwa [show m + (ps.length : Int) + 1 + 2 = m + ps.length + 3 by omega] at this
theorem un_commit {at_ cap : Nat} {ps : Ps} (h : PsOk at_ cap n ps) (hf : at_ + cap < n) (t' : Nat) (h0 : 0 ≤ m) (h1 : m < 10000000000) :
    Tri (UP n m t) (stepsP at_ t' ps) (UP n (m + 2 * ps.length + 6) (turnUp t' : Nat)) No := by
  have hcnt := h.cnt
  have hcap := h.cap
  unfold stepsP
  have a := Tri.many (P := fun k y => UP n (m + k) t y) (E := No) (fs := logP at_ ps) fun k f hk2 => by
    obtain ⟨p, hp, rfl⟩ := logP_get hk2
    have hk := (List.getElem?_eq_some_iff.1 hp).1
    have := Tri.wrU (n := n) (m := m + k) (t := t) (by omega) (by omega) (i := at_ + 1 + k) (by omega) (h.each p (List.mem_of_getElem? hp)).2.2
    rwa [show m + (k : Int) + 1 = m + ((k + 1 : Nat) : Int) by omega] at this
  rw [logP_len] at a
  refine Tri.app (a.weak (fun y hy => by rw [show m + ((0 : Nat) : Int) = m by omega]; exact hy) (fun y hy => hy) (fun y hy => hy)) (Tri.cons (Tri.syU (by omega) (by omega)) (Tri.cons (Tri.wrU (by omega) (by omega) (i := at_) (by omega) (H1_len h)) (Tri.cons (Tri.syU (by omega) (by omega)) (Tri.cons (Q := UP n (m + ps.length + 3) (turnUp t' : Nat)) (Tri.one fun y ⟨g1, g2, _⟩ => .inl ⟨rfl, g1, ?_, rfl⟩) ?_))))
  · rw [show m + (ps.length : Int) + 1 + 1 + 1 = m + ps.length + 3 by omega] at g2
    exact g2
  · have := un_home (n := n) (m := m + ps.length + 3) (t := (turnUp t' : Nat)) h hf (turnUp t') (by omega) (by omega)
    rwa [show m + (ps.length : Int) + 3 + ps.length + 3 = m + 2 * ps.length + 6 by omega] at this
end
/-- A good list of pairs, not yet sorted. -/
structure PsIn (at_ cap n : Nat) (ps : Ps) : Prop where
  nodup : (ps.map (·.1)).Nodup
  each : ∀ p ∈ ps, (at_ : Int) + cap < p.1 ∧ p.1 < n ∧ p.2.length = 256
  cnt : ps.length ≤ cap
  cap : cap ≤ 100
  big : n ≤ 4096
theorem psSort_perm (l : Ps) : (psSort l).Perm l := List.mergeSort_perm l psLe
theorem PsIn.sort {at_ cap n : Nat} {ps : Ps} (h : PsIn at_ cap n ps) : PsOk at_ cap n (psSort ps) := by
  refine ⟨?_, fun p hp => h.each p ((psSort_perm ps).mem_iff.1 hp), by rw [(psSort_perm ps).length_eq]; exact h.cnt, h.cap, h.big⟩
  have h1 : (psSort ps).Pairwise fun p q => p.1 ≤ q.1 := by
    have := List.pairwise_mergeSort (le := psLe) (fun a b c h1 h2 => by simp only [psLe, decide_eq_true_eq] at *; omega) (fun a b => by simp only [psLe, Bool.or_eq_true, decide_eq_true_eq]; omega) ps
    exact this.imp fun h => by simpa [psLe] using h
  have hns : ((psSort ps).map (·.1)).Nodup := ((psSort_perm ps).map _).nodup_iff.2 h.nodup
  rw [List.nodup_iff_pairwise_ne, List.pairwise_map] at hns
  exact (h1.and hns).imp fun ⟨a, b⟩ => by omega
theorem psM_mem {at_ cap n : Nat} {ps : Ps} (h : PsIn at_ cap n ps) (M : Nat → Sect) {p : Int × List UInt8} (hp : p ∈ ps) {i : Nat} (hi : p.1 = i) : psM (psSort ps) M i = p.2 := by
  obtain ⟨k, hk⟩ := List.mem_iff_getElem?.1 ((psSort_perm ps).mem_iff.2 hp)
  have := psM_in h.sort M hk
  rwa [show p.1.toNat = i by omega] at this
theorem psM_not {ps : Ps} (M : Nat → Sect) {i : Nat} (h : ∀ p ∈ ps, p.1 ≠ (i : Int)) : psM (psSort ps) M i = M i := psM_out M fun p hp => h p ((psSort_perm ps).mem_iff.1 hp)
theorem PsIn.bad {at_ cap n : Nat} {ps : Ps} (h : PsIn at_ cap n ps) {x : D} (hx : x.vals.length = n) : ¬ psBad x ((at_ : Int) + cap + 1) ps := by
  rintro (⟨p, hp, q⟩ | q)
  · have := h.each p hp; omega
  · exact q h.nodup
/-- A good commit: what it answers. -/
theorem commitP_good {at_ cap n : Nat} {ps : Ps} (h : PsIn at_ cap n ps) {x : D} (hx : x.vals.length = n) (t : Nat) (hne : ps ≠ []) :
    commitP x t at_ cap false ps = ⟨(runSt (stepsP at_ t (psSort ps)) (x, t)).1, (runSt (stepsP at_ t (psSort ps)) (x, t)).2.1, (runSt (stepsP at_ t (psSort ps)) (x, t)).2.2, decide (¬ (runSt (stepsP at_ t (psSort ps)) (x, t)).1 = 0)⟩ := by
  have := h.cnt
  unfold commitP
  rw [if_neg (h.bad hx), if_neg (by omega), if_neg hne, if_neg (by decide)]
theorem commitP_none {at_ cap : Nat} {x : D} (t : Nat) : commitP x t at_ cap false [] = ⟨0, x, t, false⟩ := by
  unfold commitP
  rw [if_neg (by rintro (⟨p, hp, _⟩ | q); · cases hp
                 · exact q List.nodup_nil), if_neg (by simp only [List.length_nil]; omega), if_pos rfl]
theorem psM_nil (M : Nat → Sect) : psM (psSort []) M = M := funext fun i => psM_not M fun p hp => by cases hp
section
variable {at_ cap n t : Nat} {M : Nat → Sect} {ps : Ps} {x : D}
/-- A commit, wherever the power goes. -/
theorem commit_mid (h : PsIn at_ cap n ps) (hA : AA at_ cap n M x) (t : Nat) :
    ((commitP x t at_ cap false ps).e = 0 ∧ AA at_ cap n (psM (psSort ps) M) (commitP x t at_ cap false ps).x) ∨ ((commitP x t at_ cap false ps).e ≠ 0 ∧ Mid at_ cap n M (turnUp t) (psSort ps) (commitP x t at_ cap false ps).x) := by
  by_cases hne : ps = []
  · subst hne
    rw [commitP_none, psM_nil]
    exact .inl ⟨rfl, hA⟩
  · rw [commitP_good h hA.1.len t hne]
    have := commit_tri (M := M) h.sort t (x, t) hA
    by_cases e : (runSt (stepsP at_ t (psSort ps)) (x, t)).1 = 0
    · exact .inl ⟨e, this.1 e⟩
    · exact .inr ⟨e, (this.2 e).2⟩
/-- A commit without a limit. -/
theorem commit_un (h : PsIn at_ cap n ps) (hA : AA at_ cap n M x) {m : Int} (hu : Un m x) (h0 : 0 ≤ m) (h1 : m < 10000000000) (t : Nat) :
    (commitP x t at_ cap false ps).e = 0 ∧ AA at_ cap n (psM (psSort ps) M) (commitP x t at_ cap false ps).x ∧ (commitP x t at_ cap false ps).off = false ∧
    Un (if ps = [] then m else m + 2 * ps.length + 6) (commitP x t at_ cap false ps).x ∧ (commitP x t at_ cap false ps).t = if ps = [] then t else (turnUp t : Nat) := by
  by_cases hne : ps = []
  · subst hne
    rw [commitP_none, psM_nil, if_pos rfl, if_pos rfl]
    exact ⟨rfl, hA, rfl, hu, rfl⟩
  · rw [if_neg hne, if_neg hne, commitP_good h hA.1.len t hne]
    have a := commit_tri (M := M) h.sort t (x, t) hA
    have b := un_commit (t := t) h.sort hA.1.fits t h0 h1 (x, (t : Int)) ⟨hA.1.len, hu, rfl⟩
    rw [(psSort_perm ps).length_eq] at b
    have e : (runSt (stepsP at_ t (psSort ps)) (x, t)).1 = 0 := Classical.byContradiction fun q => (b.2 q).2
    obtain ⟨c1, c2, c3⟩ := b.1 e
    exact ⟨e, a.1 e, by rw [e]; rfl, c2, c3⟩
end
end Go.Sl
/- The laws' own lists: sectors with fills; some sectors of the home; are they so? -/
namespace Go.Sl
open Go.Proofs

def fillAt (c : UInt8) (i : Nat) : UInt8 := c + UInt8.ofNat i
/-- Sectors with fills. -/
def blkP (l : List Int) (c : UInt8) : Ps := (List.range l.length).map fun i => (l.getD i 0, fullS (fillAt c i))
def bkOwn (b : Bk) : HP := slo 5 1 b.a b.n b.cap (bys b.bs)
/-- Blocks, and what they hold. -/
def FBs (a : Option Addr) (n cap : Nat) (l : List Bk) : HP := stars [slo 48 2 a n cap (bkCells l), stars (l.map bkOwn)]
theorem FBs.rd {w0 w : World} {L : List HP} {i : Nat} {a : Option Addr} {n cap : Nat} {l : List Bk} (H : Sat w0 w L) (hi : L[i]? = some (FBs a n cap l)) : Rd w a n cap 2 (bkCells l) ∧ ∀ b ∈ l, Rd w b.a b.n b.cap 1 (bys b.bs) := by
  have H1 : Sat w0 w ([slo 48 2 a n cap (bkCells l), stars (l.map bkOwn)] ++ [stars (L.eraseIdx i)]) := (H.focus hi).join.perm List.perm_append_comm |>.perm List.perm_append_comm
  refine ⟨H1.rd (i := 0) rfl, fun b hb => ?_⟩
  obtain ⟨k, hk⟩ := List.mem_iff_getElem?.1 hb
  have H2 : Sat w0 w ((l.map bkOwn) ++ [slo 48 2 a n cap (bkCells l), stars (L.eraseIdx i)]) := (H1.re 0 3 [1, 0, 2] (by kernel_rfl)).join
  have hlt : k < (l.map bkOwn).length := by rw [List.length_map]; exact (List.getElem?_eq_some_iff.1 hk).1
  exact H2.rd (i := k) (by rw [List.getElem?_append_left hlt, List.getElem?_map, hk]; rfl)
theorem x_add8 {P : Program} {ρ : Fr} {w : World} {ty t yt : TypeId} {x y : Operand} {c : UInt8} {k : Nat} (hx : ev ρ x = .int .u8 c.toNat) (hy : ev ρ y = .int .u8 (IntKind.u8.wrap k)) : Ev1 P (.binOp .add t x y yt) ty ρ w (by1 (fillAt c k)) w := by
  have h := x_add (P := P) (ty := ty) (w := w) (t := t) (yt := yt) hx hy
  have e : IntKind.u8.wrap ((c.toNat : Int) + IntKind.u8.wrap k) = ((fillAt c k).toNat : Nat) := by
    unfold fillAt
    rw [UInt8.toNat_add, UInt8.toNat_ofNat', IntKind.wrap_u8, IntKind.wrap_u8]
    omega
  rw [e] at h
  exact h
theorem blkP_len (l : List Int) (c : UInt8) : (blkP l c).length = l.length := by unfold blkP; rw [List.length_map, List.length_range]
theorem blkP_get (l : List Int) (c : UInt8) (k : Nat) (v : Int) (h : l[k]? = some v) : (blkP l c)[k]? = some (v, fullS (fillAt c k)) := by
  have hk := (List.getElem?_eq_some_iff.1 h).1
  unfold blkP
  rw [List.getElem?_map, List.getElem?_range hk, Option.map_some, List.getD_eq_getElem?_getD, h]; rfl
theorem ints_get {w : World} {a : Option Addr} {n cap : Nat} {l : List Int} (h : Rd w a n cap 1 (l.map intF)) (k : Nat) (hk : k < n) : ∃ v, l[k]? = some v ∧ (l.map intF)[k]? = some (.int .i64 v) := by
  have : l.length = n := by have := h.1; rw [List.length_map] at this; omega
  exact ⟨l[k]'(by omega), List.getElem?_eq_getElem _, by rw [List.getElem?_map, List.getElem?_eq_getElem (by omega)]; rfl⟩
theorem blocks_calls {w : World} {a : Option Addr} {n cap : Nat} {l : List Int} (HI : Rd w a n cap 1 (l.map intF)) (hn : n ≤ 1000000000000) (c : UInt8) :
    Calls Tryd.prog 12 #[.slice a n cap, by1 c] w (Ret fun v w' => ∃ a' cap' bks, v = .slice a' n cap' ∧ bkP bks = blkP l c ∧ Sat w w' [FBs a' n cap' bks]) := by
  have hl : l.length = n := by have := HI.1; rw [List.length_map] at this; omega
  have H := Sat.nil (Ext.refl w)
  refine calls_of Tryd.func12 rfl rfl ?_
  refine WP_r rfl ?_
  refine s_val rfl (x_assign (by conv => lhs; whnf)) ?_
  refine s_end ?_
  refine WP_r rfl ?_
  refine s_buildSliceE (vs := []) rfl (show SlT Tryd.prog 35 48 2 32 from ⟨by kernel_rfl, by kernel_rfl⟩) (show ∃ z, ZeroT Tryd.prog 48 z ∧ z.cells.size = 2 from ⟨_, (show ZeroT Tryd.prog 48 (.agg #[.int .i64 0, .slice none 0 0]) by unfold ZeroT; kernel_rfl), rfl⟩) rfl trivial rfl (by simp [Value.cells]) (by decide) H ?_
  clear H; intro b7 _ H
  simp only [List.cons_append, List.nil_append, List.flatMap_cons, List.flatMap_nil, Value.cells, List.append_nil] at H
  refine s_val rfl (x_assign (by conv => lhs; whnf)) ?_
  refine s_end ?_
  refine WP_seq ?_
  refine WP_r rfl ?_
  refine s_val rfl (x_assign (by conv => lhs; whnf)) ?_
  refine s_end ?_
  refine WP_block ?_
  refine WP_loopA (α := Option Addr × Nat × List Bk) (fun p => [(0, .slice a n cap), (1, by1 c), (5, .slice p.1 p.2.2.length p.2.1), (6, .int .i64 p.2.2.length)])
    (fun p w' => p.2.2.length ≤ n ∧ bkP p.2.2 = (blkP l c).take p.2.2.length ∧ Sat w w' [slo 48 2 p.1 p.2.2.length p.2.1 (bkCells p.2.2), stars (p.2.2.map bkOwn)]) (fun p => n - p.2.2.length) (_, 0, []) ⟨rfl, rfl, rfl, rfl, trivial⟩ ⟨Nat.zero_le _, rfl, H.addEmps 1⟩ ?_
  clear H
  rintro ⟨sa, sc, bks⟩ ρ w5 ⟨hk, hbk, H⟩
  dsimp only at hk hbk H ⊢
  refine WP_seq ?_
  refine WP_r rfl ?_
  refine s_val rfl (x_move (by conv => lhs; whnf)) ?_
  refine s_val rfl (x_move (by conv => lhs; whnf)) ?_
  refine s_val rfl (x_lenS (by kernel_rfl) rfl) ?_
  refine s_val rfl (x_lss rfl rfl) ?_
  refine s_end ?_
  refine WP_cond_dec rfl (fun h1 => ?_) (fun h1 => ?_)
  · skip
    refine WP_skip ?_
    refine thenQ_n ?_
    refine WP_seq ?_
    refine WP_block ?_
    obtain ⟨v, hv, hv2⟩ := ints_get HI bks.length (by omega)
    have hel : ∀ j, j = bks.length → (l.map intF)[j]? = some (.int .i64 v) := fun j hj => by subst hj; exact hv2
    have hbg := blkP_get l c _ v hv
    refine WP_draw (fun w_ => Ext w w_) (.float 0 (.float 1 (.float 2 (.float 3 (.float 4 (.float 5 (.float 6 (.float 7 (.float 8 (.fork [(9, .float 10 (.fork [(11, .fork [(12, .float 13 .done)])]))])))))))))) (by kernel_rfl) (by kernel_rfl) H.ext ?_
    replace H := H.drew
    refine r_val rfl rfl (fun w hI => x_move (by conv => lhs; whnf)) ?_
    refine r_val rfl rfl (fun w hI => x_move (by conv => lhs; whnf)) ?_
    refine r_val rfl rfl (fun w hI => x_move (by conv => lhs; whnf)) ?_
    refine r_val rfl rfl (fun w hI => x_index (show SlT Tryd.prog 22 3 1 8 from ⟨by kernel_rfl, by kernel_rfl⟩) rfl rfl (by omega) (by omega) (HI.ext hI)) ?_
    refine r_val rfl rfl (fun w hI => x_loadR (by kernel_rfl) rfl (HI.ext hI) (hel _ (by omega))) ?_
    refine r_val rfl rfl (fun w hI => x_move (by conv => lhs; whnf)) ?_
    refine r_val rfl rfl (fun w hI => x_move (by conv => lhs; whnf)) ?_
    refine r_val rfl rfl (fun w hI => x_convI (q := .i64) (k' := .u8) (by kernel_rfl) (by kernel_rfl) rfl) ?_
    refine r_val rfl rfl (fun w hI => x_add8 (c := c) (k := bks.length) rfl rfl) ?_
    refine r_one rfl ?_
    refine s_call rfl (by kernel_rfl) (full_calls (fillAt c bks.length)) rfl rfl ?_
    rintro _ _ ⟨fa, rfl, H4⟩
    replace H := H.more H4
    clear H4
    simp only [List.cons_append, List.nil_append] at H
    refine s_end ?_
    refine ⟨H.ext, ?_⟩
    refine r_val rfl rfl (fun w hI => x_buildE (vs := [_, _]) (show StT Tryd.prog 48 #[.int .i64 0, .slice none 0 0] #[(0, 1), (1, 1)] from ⟨by kernel_rfl, by kernel_rfl⟩) ⟨(by conv => lhs; whnf), (by conv => lhs; whnf), trivial⟩ (show _ = some [_, _] from rfl)) ?_
    refine r_one rfl ?_
    refine s_buildSliceE (vs := [_]) rfl (show SlT Tryd.prog 35 48 2 32 from ⟨by kernel_rfl, by kernel_rfl⟩) (show ∃ z, ZeroT Tryd.prog 48 z ∧ z.cells.size = 2 from ⟨_, (show ZeroT Tryd.prog 48 (.agg #[.int .i64 0, .slice none 0 0]) by unfold ZeroT; kernel_rfl), rfl⟩) rfl ⟨(by conv => lhs; whnf), trivial⟩ rfl (by simp [Value.cells]) (by decide) H ?_
    clear H; intro b25 _ H
    simp only [List.cons_append, List.nil_append, List.flatMap_cons, List.flatMap_nil, Value.cells, List.append_nil] at H
    refine s_end ?_
    refine ⟨H.ext, ?_⟩
    refine r_one rfl ?_
    refine s_append rfl (show SlT Tryd.prog 35 48 2 32 from ⟨by kernel_rfl, by kernel_rfl⟩) (show ∃ z, ZeroT Tryd.prog 48 z ∧ z.cells.size = 2 from ⟨_, (show ZeroT Tryd.prog 48 (.agg #[.int .i64 0, .slice none 0 0]) by unfold ZeroT; kernel_rfl), rfl⟩) ⟨_, (show SlT Tryd.prog 35 48 2 32 from ⟨by kernel_rfl, by kernel_rfl⟩).und⟩ rfl rfl H (i := 0) rfl (H.rd (i := 3) rfl) (by first | exact bys_oneCell _ | (intro u hu; simp at hu; rcases hu with rfl | rfl | rfl | rfl <;> rfl) | (intro u hu; simp at hu; subst hu; rfl) | (intro u hu; obtain ⟨_, _, rfl⟩ := List.mem_map.1 hu; rfl)) (by omega) (by omega) ?_
    clear H; intro a26 c26 _ H
    simp only [List.set_cons_zero, List.set_cons_succ] at H
    refine s_end ?_
    refine ⟨H.ext, ?_⟩
    refine r_val rfl rfl (fun w hI => x_assign (by conv => lhs; whnf)) ?_
    refine r_done ?_
    refine blockQ_n ?_
    refine thenQ_n ?_
    refine WP_region rfl ?_
    refine s_val rfl (x_move (by conv => lhs; whnf)) ?_
    refine s_val rfl (x_addi rfl rfl (by omega)) ?_
    refine s_val rfl (x_assign (by conv => lhs; whnf)) ?_
    refine s_end ?_
    obtain ⟨b1, hb1⟩ : ∃ b1 : Bk, b1 = ⟨v, fa, 256, 256, fullS (fillAt c bks.length)⟩ := ⟨_, rfl⟩
    have hlen : (bks ++ [b1]).length = bks.length + 1 := by rw [List.length_append, List.length_singleton]
    have hcl := bkCells_len bks
    refine loopQ_A (a26, c26, bks ++ [b1]) (by show n - (bks ++ [b1]).length < n - bks.length; omega) ⟨rfl, rfl, by show _ = Value.slice a26 (bks ++ [b1]).length c26; rw [hlen]; rfl, by show _ = Value.int .i64 ((bks ++ [b1]).length : Nat); rw [hlen]; rfl, trivial⟩ ⟨by show (bks ++ [b1]).length ≤ n; omega, ?_, ?_⟩
    · show bkP (bks ++ [b1]) = (blkP l c).take (bks ++ [b1]).length
      rw [hlen, List.take_add_one, hbg, Option.toList_some, ← hbk, hb1]
      unfold bkP
      rw [List.map_append]; rfl
    · have H3 := Sat.absorb (L := [_, stars (bks.map bkOwn)]) (i := 1) (p := slo 5 1 fa 256 256 (bys (fullS (fillAt c bks.length)))) (H.re 0 3 [0, 1, 2, 3] (by kernel_rfl)) rfl
      show Sat w _ [slo 48 2 a26 (bks ++ [b1]).length c26 (bkCells (bks ++ [b1])), stars ((bks ++ [b1]).map bkOwn)]
      have e1 : bkCells (bks ++ [b1]) = bkCells bks ++ b1.cells := by unfold bkCells; rw [List.flatMap_append, List.flatMap_cons, List.flatMap_nil, List.append_nil]
      rw [hlen, List.map_append, e1, hb1]
      exact H3
  · skip
    refine WP_exit ?_
    refine thenQ_e ?_
    refine loopQ_e ?_
    refine blockQ_hit ?_
    refine thenQ_n ?_
    refine WP_r rfl ?_
    refine s_val rfl (x_move (by conv => lhs; whnf)) ?_
    refine s_val rfl (x_assign (by conv => lhs; whnf)) ?_
    refine s_end ?_
    refine WP_ret ?_
    refine retQ_1 rfl (by conv => lhs; whnf) ?_
    have hke : bks.length = n := by omega
    rw [List.take_of_length_le (by rw [blkP_len]; omega)] at hbk
    rw [hke] at H
    exact ⟨_, _, bks, by rw [hke], hbk, H.all⟩
end Go.Sl
/- The laws' own lists: some sectors of the home; are they so? -/
namespace Go.Sl
open Go.Proofs

theorem HasInt_calls {w : World} {a : Option Addr} {n cap : Nat} {l : List Int} (HI : Rd w a n cap 1 (l.map intF)) (hn : n ≤ 4611686018427387904) (m : Int) :
    Calls Tryd.prog 43 #[.slice a n cap, .int .i64 m] w (Ret fun v w' => v = .bool (decide (m ∈ l)) ∧ core w' = core w) := by
  have hl : l.length = n := by have := HI.1; rw [List.length_map] at this; omega
  refine calls_of Tryd.func43 rfl rfl ?_
  refine WP_r rfl ?_
  refine s_val rfl (x_assign (by conv => lhs; whnf)) ?_
  refine s_end ?_
  refine WP_seq ?_
  refine WP_r rfl ?_
  refine s_val rfl (x_assign (by conv => lhs; whnf)) ?_
  refine s_end ?_
  refine WP_block ?_
  refine WP_loopA (α := Nat) (fun k => [(0, .slice a n cap), (1, .int .i64 m), (5, .int .i64 k)]) (fun k w' => k ≤ n ∧ m ∉ l.take k ∧ w' = w) (fun k => n - k) 0 ⟨rfl, rfl, rfl, trivial⟩ ⟨Nat.zero_le _, by simp, rfl⟩ ?_
  rintro k ρ w1 ⟨hk, hno, e1⟩
  replace e1 := e1.symm
  subst e1
  refine WP_seq ?_
  refine WP_r rfl ?_
  refine s_val rfl (x_move (by conv => lhs; whnf)) ?_
  refine s_val rfl (x_move (by conv => lhs; whnf)) ?_
  refine s_val rfl (x_lenS (by kernel_rfl) rfl) ?_
  refine s_val rfl (x_lss rfl rfl) ?_
  refine s_end ?_
  refine WP_cond_dec rfl (fun h1 => ?_) (fun h1 => ?_)
  · skip
    refine WP_skip ?_
    refine thenQ_n ?_
    refine WP_seq ?_
    refine WP_block ?_
    obtain ⟨v, hv, hv2⟩ := ints_get HI k (by omega)
    have hel : ∀ j, j = k → (l.map intF)[j]? = some (.int .i64 v) := fun j hj => by subst hj; exact hv2
    refine WP_r rfl ?_
    refine s_val rfl (x_move (by conv => lhs; whnf)) ?_
    refine s_val rfl (x_move (by conv => lhs; whnf)) ?_
    refine s_val rfl (x_index (show SlT Tryd.prog 22 3 1 8 from ⟨by kernel_rfl, by kernel_rfl⟩) rfl rfl (by omega) (by omega) HI) ?_
    refine s_val rfl (x_loadR (by kernel_rfl) rfl HI (hel _ (by omega))) ?_
    refine s_val rfl (x_move (by conv => lhs; whnf)) ?_
    refine s_val rfl (x_eql rfl rfl) ?_
    refine s_end ?_
    refine WP_cond_dec rfl (fun h2 => ?_) (fun h2 => ?_)
    · skip
      refine WP_r rfl ?_
      refine s_val rfl (x_assign (by conv => lhs; whnf)) ?_
      refine s_end ?_
      refine WP_ret ?_
      refine blockQ_r ?_
      refine thenQ_r ?_
      refine loopQ_r ?_
      refine blockQ_r ?_
      refine thenQ_r ?_
      refine retQ_1 rfl (by conv => lhs; whnf) ?_
      have hm : m ∈ l := by
        have : v = m := by omega
        rw [← this]; exact List.mem_of_getElem? hv
      exact ⟨by rw [decide_eq_true hm], rfl⟩
    · skip
      refine WP_skip ?_
      refine blockQ_n ?_
      refine thenQ_n ?_
      refine WP_region rfl ?_
      refine s_val rfl (x_move (by conv => lhs; whnf)) ?_
      refine s_val rfl (x_addi rfl rfl (by omega)) ?_
      refine s_val rfl (x_assign (by conv => lhs; whnf)) ?_
      refine s_end ?_
      refine loopQ_A (k + 1) (by omega) ⟨rfl, rfl, rfl, trivial⟩ ⟨by omega, ?_, rfl⟩
      rw [List.take_add_one, hv, Option.toList_some, List.mem_append, List.mem_singleton]
      rintro (h | h)
      · exact hno h
      · omega
  · skip
    refine WP_exit ?_
    refine thenQ_e ?_
    refine loopQ_e ?_
    refine blockQ_hit ?_
    refine thenQ_n ?_
    refine WP_r rfl ?_
    refine s_val rfl (x_assign (by conv => lhs; whnf)) ?_
    refine s_end ?_
    refine WP_ret ?_
    refine retQ_1 rfl (by conv => lhs; whnf) ?_
    rw [List.take_of_length_le (by omega)] at hno
    exact ⟨by rw [decide_eq_false hno], rfl⟩
/-- Some sectors of the home, each once. -/
structure AtsOk (s : Int) (l : List Int) : Prop where
  nodup : l.Nodup
  each : ∀ k ∈ l, 8 ≤ k ∧ k < s
  cnt : l.length ≤ 5
theorem ats_calls {w : World} {a : Option Addr} {n cap : Nat} {l : List Int} (HI : Rd w a n cap 1 (l.map intF)) (hn : n ≤ 4611686018427387904) (s : Int) (h1 : 9 ≤ s) (h2 : s ≤ 1000) :
    Calls Tryd.prog 18 #[.slice a n cap, .int .i64 s] w (Ret fun v w' => ∃ a' cap' out, v = .slice a' (List.length out) cap' ∧ AtsOk s out ∧ Sat w w' [slo 3 1 a' out.length cap' (out.map intF)]) := by
  have hl : l.length = n := by have := HI.1; rw [List.length_map] at this; omega
  have H := Sat.nil (Ext.refl w)
  refine calls_of Tryd.func18 rfl rfl ?_
  refine WP_r rfl ?_
  refine s_val rfl (x_assign (by conv => lhs; whnf)) ?_
  refine s_end ?_
  refine WP_r rfl ?_
  refine s_buildSliceE (vs := []) rfl (show SlT Tryd.prog 22 3 1 8 from ⟨by kernel_rfl, by kernel_rfl⟩) (show ∃ z, ZeroT Tryd.prog 3 z ∧ z.cells.size = 1 from ⟨_, (show ZeroT Tryd.prog 3 (.int .i64 0) by unfold ZeroT; kernel_rfl), rfl⟩) rfl trivial rfl (by simp [Value.cells]) (by decide) H ?_
  clear H; intro b8 _ H
  simp only [List.cons_append, List.nil_append, List.flatMap_cons, List.flatMap_nil, Value.cells, List.append_nil] at H
  refine s_val rfl (x_assign (by conv => lhs; whnf)) ?_
  refine s_end ?_
  refine WP_seq ?_
  refine WP_r rfl ?_
  refine s_val rfl (x_assign (by conv => lhs; whnf)) ?_
  refine s_end ?_
  refine WP_block ?_
  refine WP_loopA (α := Option Addr × Nat × List Int × Nat) (fun p => [(0, .slice a n cap), (1, .int .i64 s), (5, .slice p.1 p.2.2.1.length p.2.1), (6, .int .i64 p.2.2.2)])
    (fun p w' => p.2.2.2 ≤ n ∧ AtsOk s p.2.2.1 ∧ Sat w w' [slo 3 1 p.1 p.2.2.1.length p.2.1 (p.2.2.1.map intF)]) (fun p => n - p.2.2.2) (_, 0, [], 0) ⟨rfl, rfl, rfl, rfl, trivial⟩ ⟨Nat.zero_le _, ⟨List.nodup_nil, (fun k hk => by cases hk), Nat.zero_le _⟩, H⟩ ?_
  clear H
  rintro ⟨sa, sc, out, i⟩ ρ w5 ⟨hk, hok, H⟩
  dsimp only at hk hok H ⊢
  have hc5 := hok.cnt
  refine WP_seq ?_
  refine WP_r rfl ?_
  refine s_val rfl (x_move (by conv => lhs; whnf)) ?_
  refine s_val rfl (x_move (by conv => lhs; whnf)) ?_
  refine s_val rfl (x_lenS (by kernel_rfl) rfl) ?_
  refine s_val rfl (x_lss rfl rfl) ?_
  refine s_dec rfl (x_move rfl) (fun h1 => ?_) (fun h1 => ?_)
  · skip
    refine s_val rfl (x_move (by conv => lhs; whnf)) ?_
    refine s_val rfl (x_lenS (by kernel_rfl) rfl) ?_
    refine s_val rfl (x_lss rfl rfl) ?_
    refine s_val rfl (x_pick_true rfl (by conv => lhs; whnf)) ?_
    refine s_end ?_
    refine WP_cond_dec rfl (fun h2 => ?_) (fun h2 => ?_)
    · skip
      refine WP_skip ?_
      refine thenQ_n ?_
      refine WP_seq ?_
      refine WP_block ?_
      obtain ⟨v, hv, hv2⟩ := ints_get HI i (by omega)
      have hel : ∀ j, j = i → (l.map intF)[j]? = some (.int .i64 v) := fun j hj => by subst hj; exact hv2
      have hb := among_bounds v (s - 8) (by omega)
      refine WP_r rfl ?_
      refine s_val rfl (x_move (by conv => lhs; whnf)) ?_
      refine s_val rfl (x_move (by conv => lhs; whnf)) ?_
      refine s_val rfl (x_index (show SlT Tryd.prog 22 3 1 8 from ⟨by kernel_rfl, by kernel_rfl⟩) rfl rfl (by omega) (by omega) (HI.ext H.ext)) ?_
      refine s_val rfl (x_loadR (by kernel_rfl) rfl (HI.ext H.ext) (hel _ (by omega))) ?_
      refine s_val rfl (x_move (by conv => lhs; whnf)) ?_
      refine s_val rfl (x_subi rfl rfl (by omega)) ?_
      refine s_call rfl (by kernel_rfl) (Among_calls v (s - 8) (by omega) (by omega)) rfl rfl ?_
      rintro _ w_ ⟨rfl, e_⟩; replace e_ := e_.symm; subst e_
      refine s_val rfl (x_addi rfl rfl (by omega)) ?_
      refine s_val rfl (x_assign (by conv => lhs; whnf)) ?_
      refine s_end ?_
      refine WP_r rfl ?_
      refine s_val rfl (x_move (by conv => lhs; whnf)) ?_
      refine s_val rfl (x_move (by conv => lhs; whnf)) ?_
      refine s_call rfl (by kernel_rfl) (HasInt_calls (H.rd (i := 0) rfl) (by omega) (8 + among v (s - 8))) rfl rfl ?_
      rintro _ _ ⟨rfl, e_⟩; replace H := H.heapEq e_; clear e_
      refine s_val rfl (x_not rfl) ?_
      refine s_end ?_
      refine WP_cond rfl (fun h3 => ?_) (fun h3 => ?_)
      · skip
        refine WP_region rfl ?_
        refine s_val rfl (x_move (by conv => lhs; whnf)) ?_
        refine s_val rfl (x_move (by conv => lhs; whnf)) ?_
        refine s_buildSliceE (vs := [_]) rfl (show SlT Tryd.prog 22 3 1 8 from ⟨by kernel_rfl, by kernel_rfl⟩) (show ∃ z, ZeroT Tryd.prog 3 z ∧ z.cells.size = 1 from ⟨_, (show ZeroT Tryd.prog 3 (.int .i64 0) by unfold ZeroT; kernel_rfl), rfl⟩) rfl ⟨(by conv => lhs; whnf), trivial⟩ rfl (by simp [Value.cells]) (by decide) H ?_
        clear H; intro b34 _ H
        simp only [List.cons_append, List.nil_append, List.flatMap_cons, List.flatMap_nil, Value.cells, List.append_nil] at H
        refine s_append rfl (show SlT Tryd.prog 22 3 1 8 from ⟨by kernel_rfl, by kernel_rfl⟩) (show ∃ z, ZeroT Tryd.prog 3 z ∧ z.cells.size = 1 from ⟨_, (show ZeroT Tryd.prog 3 (.int .i64 0) by unfold ZeroT; kernel_rfl), rfl⟩) ⟨_, (show SlT Tryd.prog 22 3 1 8 from ⟨by kernel_rfl, by kernel_rfl⟩).und⟩ rfl rfl H (i := 0) rfl (H.rd (i := 1) rfl) (by first | exact bys_oneCell _ | (intro u hu; simp at hu; rcases hu with rfl | rfl | rfl | rfl <;> rfl) | (intro u hu; simp at hu; subst hu; rfl) | (intro u hu; obtain ⟨_, _, rfl⟩ := List.mem_map.1 hu; rfl)) (by omega) (by omega) ?_
        clear H; intro a35 c35 _ H
        simp only [List.set_cons_zero, List.set_cons_succ] at H
        refine s_val rfl (x_assign (by conv => lhs; whnf)) ?_
        refine s_end ?_
        refine blockQ_n ?_
        refine thenQ_n ?_
        refine WP_region rfl ?_
        refine s_val rfl (x_move (by conv => lhs; whnf)) ?_
        refine s_val rfl (x_addi rfl rfl (by omega)) ?_
        refine s_val rfl (x_assign (by conv => lhs; whnf)) ?_
        refine s_end ?_
        first
          | (have hni : (8 + among v (s - 8)) ∉ out := by simp_all
             have hlen : (out ++ [8 + among v (s - 8)]).length = out.length + 1 := by rw [List.length_append, List.length_singleton]
             refine loopQ_A (a35, c35, out ++ [8 + among v (s - 8)], i + 1) (by show n - (i + 1) < n - i; omega) ⟨rfl, rfl, by show _ = Value.slice a35 (out ++ [8 + among v (s - 8)]).length c35; rw [hlen]; rfl, rfl, trivial⟩ ⟨by show i + 1 ≤ n; omega, ⟨?_, fun k hk => ?_, by show (out ++ [8 + among v (s - 8)]).length ≤ 5; omega⟩, ?_⟩
             · rw [List.nodup_append]; exact ⟨hok.nodup, by simp, fun x hx y hy e => hni (by rw [List.mem_singleton] at hy; rw [← hy, ← e]; exact hx)⟩
             · rcases List.mem_append.1 hk with h | h
               · exact hok.each k h
               · rw [List.mem_singleton.1 h]; omega
             · show Sat w _ [slo 3 1 a35 (out ++ [8 + among v (s - 8)]).length c35 ((out ++ [8 + among v (s - 8)]).map intF)]
               rw [hlen, List.map_append]
               exact H.re 0 1 [0, 1] (by kernel_rfl))
          | exact loopQ_A (sa, sc, out, i + 1) (by show n - (i + 1) < n - i; omega) ⟨rfl, rfl, rfl, rfl, trivial⟩ ⟨by show i + 1 ≤ n; omega, hok, H⟩
      · skip
        refine WP_skip ?_
        refine blockQ_n ?_
        refine thenQ_n ?_
        refine WP_region rfl ?_
        refine s_val rfl (x_move (by conv => lhs; whnf)) ?_
        refine s_val rfl (x_addi rfl rfl (by omega)) ?_
        refine s_val rfl (x_assign (by conv => lhs; whnf)) ?_
        refine s_end ?_
        first
          | (have hni : (8 + among v (s - 8)) ∉ out := by simp_all
             have hlen : (out ++ [8 + among v (s - 8)]).length = out.length + 1 := by rw [List.length_append, List.length_singleton]
             refine loopQ_A (a35, c35, out ++ [8 + among v (s - 8)], i + 1) (by show n - (i + 1) < n - i; omega) ⟨rfl, rfl, by show _ = Value.slice a35 (out ++ [8 + among v (s - 8)]).length c35; rw [hlen]; rfl, rfl, trivial⟩ ⟨by show i + 1 ≤ n; omega, ⟨?_, fun k hk => ?_, by show (out ++ [8 + among v (s - 8)]).length ≤ 5; omega⟩, ?_⟩
             · rw [List.nodup_append]; exact ⟨hok.nodup, by simp, fun x hx y hy e => hni (by rw [List.mem_singleton] at hy; rw [← hy, ← e]; exact hx)⟩
             · rcases List.mem_append.1 hk with h | h
               · exact hok.each k h
               · rw [List.mem_singleton.1 h]; omega
             · show Sat w _ [slo 3 1 a35 (out ++ [8 + among v (s - 8)]).length c35 ((out ++ [8 + among v (s - 8)]).map intF)]
               rw [hlen, List.map_append]
               exact H.re 0 1 [0, 1] (by kernel_rfl))
          | exact loopQ_A (sa, sc, out, i + 1) (by show n - (i + 1) < n - i; omega) ⟨rfl, rfl, rfl, rfl, trivial⟩ ⟨by show i + 1 ≤ n; omega, hok, H⟩
    · skip
      refine WP_exit ?_
      refine thenQ_e ?_
      refine loopQ_e ?_
      refine blockQ_hit ?_
      refine thenQ_n ?_
      refine WP_r rfl ?_
      refine s_val rfl (x_move (by conv => lhs; whnf)) ?_
      refine s_val rfl (x_assign (by conv => lhs; whnf)) ?_
      refine s_end ?_
      refine WP_ret ?_
      refine retQ_1 rfl (by conv => lhs; whnf) ?_
      exact ⟨_, _, out, rfl, hok, H⟩
  · skip
    refine s_out rfl ?_
    refine s_out rfl ?_
    refine s_out rfl ?_
    refine s_val rfl (x_pick_false rfl (by conv => lhs; whnf)) ?_
    refine s_end ?_
    refine WP_cond_false rfl ?_
    refine WP_exit ?_
    refine thenQ_e ?_
    refine loopQ_e ?_
    refine blockQ_hit ?_
    refine thenQ_n ?_
    refine WP_r rfl ?_
    refine s_val rfl (x_move (by conv => lhs; whnf)) ?_
    refine s_val rfl (x_assign (by conv => lhs; whnf)) ?_
    refine s_end ?_
    refine WP_ret ?_
    refine retQ_1 rfl (by conv => lhs; whnf) ?_
    exact ⟨_, _, out, rfl, hok, H⟩
/-- Are all these sectors so? -/
def allP (x : D) (l : Ps) : Bool := l.all fun p => decide ((x.read p.1).1 = 0) && decide ((x.read p.1).2 = p.2)
theorem read_len {x : D} (h : x.Ok) (at_ : Int) : (x.read at_).2.length ≤ 256 := by
  by_cases e : (x.read at_).1 = 0
  · obtain ⟨_, _, e2, _⟩ := read_ok h e; omega
  · have : (x.read at_).2 = [] := by
      unfold D.read at e ⊢
      split
      · rfl
      · rename_i h1
        rw [if_neg h1] at e
        split
        · rfl
        · rename_i h2; rw [if_neg h2] at e; exact absurd rfl e
    rw [this]; simp
theorem allP_cut {x : D} {l : List Bk} {k : Nat} (h : allP x (bkP (l.take k)) = false) : allP x (bkP l) = false := by
  have e : bkP l = bkP (l.take k) ++ bkP (l.drop k) := by unfold bkP; rw [← List.map_append, List.take_append_drop]
  unfold allP at h ⊢
  rw [e, List.all_append, h, Bool.false_and]
theorem all_calls {w : World} {d : Nat} {x : D} (hd : HoldD w d x) {a : Option Addr} {n cap : Nat} {l : List Bk} (HB : Rd w a n cap 2 (bkCells l)) (hn : n ≤ 4611686018427387904) (hb : ∀ b ∈ l, Rd w b.a b.n b.cap 1 (bys b.bs)) :
    Calls Tryd.prog 22 #[dp d, .slice a n cap] w (Ret fun v w' => v = .bool (allP x (bkP l)) ∧ Ext w w') := by
  have hl : l.length = n := by have := HB.1; rw [bkCells_len] at this; omega
  have H := Sat.nil (Ext.refl w)
  refine calls_of Tryd.func22 rfl rfl ?_
  refine WP_r rfl ?_
  refine s_val rfl (x_assign (by conv => lhs; whnf)) ?_
  refine s_end ?_
  refine WP_seq ?_
  refine WP_r rfl ?_
  refine s_val rfl (x_assign (by conv => lhs; whnf)) ?_
  refine s_end ?_
  refine WP_block ?_
  refine WP_loopA (α := Nat) (fun k => [(0, dp d), (1, .slice a n cap), (5, .int .i64 k)]) (fun k w' => k ≤ n ∧ allP x (bkP (l.take k)) = true ∧ Sat w w' []) (fun k => n - k) 0 ⟨rfl, rfl, rfl, trivial⟩ ⟨Nat.zero_le _, rfl, H⟩ ?_
  clear H
  rintro k ρ w1 ⟨hk, hall, H⟩
  refine WP_seq ?_
  refine WP_r rfl ?_
  refine s_val rfl (x_move (by conv => lhs; whnf)) ?_
  refine s_val rfl (x_move (by conv => lhs; whnf)) ?_
  refine s_val rfl (x_lenS (by kernel_rfl) rfl) ?_
  refine s_val rfl (x_lss rfl rfl) ?_
  refine s_end ?_
  refine WP_cond_dec rfl (fun h1 => ?_) (fun h1 => ?_)
  · skip
    refine WP_skip ?_
    refine thenQ_n ?_
    refine WP_seq ?_
    refine WP_block ?_
    obtain ⟨b, hbk⟩ : ∃ b, l[k]? = some b := ⟨_, List.getElem?_eq_getElem (by omega)⟩
    have hg0 := bkCells_get l k b 0 hbk (by decide)
    have hg1 := bkCells_get l k b 1 hbk (by decide)
    have hbm := List.mem_of_getElem? hbk
    have hcl := bkCells_len l
    have hrl := read_len hd.ok b.at_
    have hap : allP x (bkP (l.take (k + 1))) = (decide ((x.read b.at_).1 = 0) && decide ((x.read b.at_).2 = b.bs)) := by
      rw [List.take_add_one, hbk, Option.toList_some]
      unfold bkP allP at hall ⊢
      rw [List.map_append, List.all_append, hall]
      simp
    refine WP_r rfl ?_
    refine s_val rfl (x_move (by conv => lhs; whnf)) ?_
    refine s_val rfl (x_move (by conv => lhs; whnf)) ?_
    refine s_val rfl (x_move (by conv => lhs; whnf)) ?_
    refine s_val rfl (x_index (show SlT Tryd.prog 35 48 2 32 from ⟨by kernel_rfl, by kernel_rfl⟩) rfl rfl (by omega) (by omega) (HB.ext H.ext)) ?_
    refine s_val rfl (x_fieldR (off := 0) (by kernel_rfl) rfl (HB.ext H.ext) (by omega)) ?_
    refine s_val rfl (x_loadR (by kernel_rfl) rfl (HB.ext H.ext) (by rw [show ((k : Int)).toNat * 2 + 0 = k * 2 + 0 by omega]; exact hg0)) ?_
    refine s_call rfl (by kernel_rfl) (Read_calls (hd.ext H.ext) b.at_) rfl rfl ?_
    rintro _ _ ⟨ra, rn, rc, rfl, H4⟩
    replace H := H.more H4
    clear H4
    simp only [List.nil_append] at H
    refine s_val rfl (x_move (by conv => lhs; whnf)) ?_
    refine s_val rfl (x_extract rfl rfl) ?_
    refine s_val rfl (x_extract rfl rfl) ?_
    refine s_val rfl (x_assign (by conv => lhs; whnf)) ?_
    refine s_val rfl (x_assign (by conv => lhs; whnf)) ?_
    refine s_end ?_
    refine WP_r rfl ?_
    refine s_val rfl (x_move (by conv => lhs; whnf)) ?_
    refine s_val rfl (x_neq rfl rfl) ?_
    refine s_dec rfl (x_move rfl) (fun h2 => ?_) (fun h2 => ?_)
    · skip
      refine s_out rfl ?_
      refine s_out rfl ?_
      refine s_out rfl ?_
      refine s_out rfl ?_
      refine s_out rfl ?_
      refine s_out rfl ?_
      refine s_out rfl ?_
      refine s_out rfl ?_
      refine s_val rfl (x_pick_true rfl (by conv => lhs; whnf)) ?_
      refine s_end ?_
      refine WP_cond_true rfl ?_
      refine WP_r rfl ?_
      refine s_val rfl (x_assign (by conv => lhs; whnf)) ?_
      refine s_end ?_
      refine WP_ret ?_
      refine blockQ_r ?_
      refine thenQ_r ?_
      refine loopQ_r ?_
      refine blockQ_r ?_
      refine thenQ_r ?_
      refine retQ_1 rfl (by conv => lhs; whnf) ?_
      have hf : allP x (bkP (l.take (k + 1))) = false := by rw [hap]; simp_all
      refine ⟨?_, H.ext⟩
      rw [allP_cut hf]
    · skip
      refine s_val rfl (x_move (by conv => lhs; whnf)) ?_
      refine s_val rfl (x_move (by conv => lhs; whnf)) ?_
      refine s_val rfl (x_move (by conv => lhs; whnf)) ?_
      refine s_val rfl (x_index (show SlT Tryd.prog 35 48 2 32 from ⟨by kernel_rfl, by kernel_rfl⟩) rfl rfl (by omega) (by omega) (HB.ext H.ext)) ?_
      refine s_val rfl (x_fieldR (off := 1) (by kernel_rfl) rfl (HB.ext H.ext) (by omega)) ?_
      refine s_val rfl (x_loadR (by kernel_rfl) rfl (HB.ext H.ext) (by rw [show ((k : Int)).toNat * 2 + 1 = k * 2 + 1 by omega]; exact hg1)) ?_
      refine s_call rfl (by kernel_rfl) (SameBytes_calls (H.rd (i := 0) rfl) ((hb b hbm).ext H.ext) (by have := (H.rd (i := 0) rfl).1; rw [bys_length] at this; omega)) rfl rfl ?_
      rintro _ _ ⟨rfl, e_⟩; replace H := H.heapEq e_; clear e_
      refine s_val rfl (x_not rfl) ?_
      refine s_val rfl (x_pick_false rfl (by conv => lhs; whnf)) ?_
      refine s_end ?_
      refine WP_cond rfl (fun h3 => ?_) (fun h3 => ?_)
      · skip
        refine WP_r rfl ?_
        refine s_val rfl (x_assign (by conv => lhs; whnf)) ?_
        refine s_end ?_
        refine WP_ret ?_
        refine blockQ_r ?_
        refine thenQ_r ?_
        refine loopQ_r ?_
        refine blockQ_r ?_
        refine thenQ_r ?_
        refine retQ_1 rfl (by conv => lhs; whnf) ?_
        have hf : allP x (bkP (l.take (k + 1))) = false := by rw [hap]; simp_all
        refine ⟨?_, H.ext⟩
        rw [allP_cut hf]
      · skip
        refine WP_skip ?_
        refine blockQ_n ?_
        refine thenQ_n ?_
        refine WP_region rfl ?_
        refine s_val rfl (x_move (by conv => lhs; whnf)) ?_
        refine s_val rfl (x_addi rfl rfl (by omega)) ?_
        refine s_val rfl (x_assign (by conv => lhs; whnf)) ?_
        refine s_end ?_
        refine loopQ_A (k + 1) (by omega) ⟨rfl, rfl, rfl, trivial⟩ ⟨by omega, by rw [hap]; simp_all, H.drop 0⟩
  · skip
    refine WP_exit ?_
    refine thenQ_e ?_
    refine loopQ_e ?_
    refine blockQ_hit ?_
    refine thenQ_n ?_
    refine WP_r rfl ?_
    refine s_val rfl (x_assign (by conv => lhs; whnf)) ?_
    refine s_end ?_
    refine WP_ret ?_
    refine retQ_1 rfl (by conv => lhs; whnf) ?_
    rw [List.take_of_length_le (by omega)] at hall
    exact ⟨by rw [hall], H.ext⟩
end Go.Sl
/- Plain law of a log: a log is made; what is begun. -/
namespace Go.Sl
open Go.Proofs

section
variable {at_ cap n t : Nat} {M : Nat → Sect} {ps : Ps} {x x' : D}
/-- A disk whose home is so. -/
def P0 (at_ cap n : Nat) (M : Nat → Sect) (x : D) : Prop := Bs at_ cap n x ∧ ∀ i, i < n → Hom at_ cap i → x.latest i = M i
theorem AA.plain (h : AA at_ cap n M x) : P0 at_ cap n M x := ⟨h.1, fun i hi ho => h.2.2 i hi ho _ (h.1.latest hi)⟩
theorem empty_tri (ht : t < 4294967296) (hf : at_ + cap < n) : Tri (fun y => P0 at_ cap n M y.1) (emptyS at_ t) (fun y => AA at_ cap n M y.1 ∧ y.1.latest at_ = hdr t [] []) (fun _ => True) := by
  refine Tri.cons (Q := fun y => P0 at_ cap n M y.1 ∧ y.1.latest at_ = hdr t [] [])
    (Tri.wr (at_ := at_) (cap := cap) (n := n) (P := P0 at_ cap n M) (Q := fun x => P0 at_ cap n M x ∧ x.latest at_ = hdr t [] []) (E := fun _ => True) (fun x hx => hx.1) (by omega) (hdr_len _ _ _ (by decide)) (fun x x' hx b1 s1 s2 => ⟨⟨b1, fun i hi ho => ?_⟩, latest_app s1⟩) (fun _ _ _ _ => trivial))
    (Tri.sy (at_ := at_) (cap := cap) (n := n) (P := fun x => P0 at_ cap n M x ∧ x.latest at_ = hdr t [] []) (Q := fun x => AA at_ cap n M x ∧ x.latest at_ = hdr t [] []) (E := fun _ => True) (fun x hx => hx.1.1) (fun x x' hx b1 s1 => ⟨⟨b1, fun v hv => ⟨t, ht, ?_⟩, fun i hi ho v hv => ?_⟩, ?_⟩) (fun _ _ _ _ => trivial))
  · rw [latest_same (s2 i (by unfold Hom at ho; omega))]; exact hx.2 i hi ho
  · rw [s1 at_ (by omega)] at hv
    rw [List.mem_singleton.1 hv]; exact hx.2
  · rw [s1 i hi] at hv
    rw [List.mem_singleton.1 hv]; exact hx.1.2 i hi ho
  · exact latest_app (l := []) ((s1 at_ (by omega)).trans (by rw [hx.2]; rfl))
/-- What every sector is behind a log's last step. -/
def Settled (n : Nat) (x : D) : Prop := ∀ i, i < n → (x.S i).length = 1
theorem home_turn (h : PsOk at_ cap n ps) (ht : t < 4294967296) : Tri (fun y => Bs at_ cap n y.1) (homeS at_ t (psHomes ps) (psData ps)) (fun y => y.1.latest at_ = hdr t [] [] ∧ Settled n y.1) (fun _ => True) := by
  have hlen : ∀ p ∈ ps, p.2.length = 256 := fun p hp => (h.each p hp).2.2
  intro y0 hy0
  have hf := hy0.fits
  unfold homeS
  have hl0 : (homeS0 (psHomes ps) (psData ps)).length = ps.length := by unfold homeS0 psHomes; rw [List.length_map, List.length_range, List.length_map]
  have a := Tri.many (P := fun _ y => Bs at_ cap n y.1) (E := fun _ => True) (fs := homeS0 (psHomes ps) (psData ps)) fun k f hf => by
    have hk : k < ps.length := by rw [← hl0]; exact (List.getElem?_eq_some_iff.1 hf).1
    obtain ⟨p, hp⟩ : ∃ p, ps[k]? = some p := ⟨_, List.getElem?_eq_getElem hk⟩
    have hpe := h.each p (List.mem_of_getElem? hp)
    have hf2 : f = wrS (p.1.toNat : Nat) p.2 := by
      unfold homeS0 at hf
      rw [List.getElem?_map, List.getElem?_range (by unfold psHomes; rw [List.length_map]; exact hk), Option.map_some, psHomes_get hp, psData_chk hlen hp] at hf
      injection hf with hf; exact hf.symm
    subst hf2
    exact Tri.wr (at_ := at_) (cap := cap) (n := n) (P := Bs at_ cap n) (Q := Bs at_ cap n) (E := fun _ => True) (fun x hx => hx) (by omega) hpe.2.2 (fun _ _ _ b _ _ => b) (fun _ _ _ _ => trivial)
  refine (Tri.app (R := fun y => y.1.latest at_ = hdr t [] [] ∧ Settled n y.1) a (Tri.cons (Q := fun y => Bs at_ cap n y.1) (Tri.sy (at_ := at_) (cap := cap) (n := n) (P := Bs at_ cap n) (Q := Bs at_ cap n) (E := fun _ => True) (fun x hx => hx) (fun _ _ _ b _ => b) (fun _ _ _ _ => trivial)) ?_) : Tri _ _ _ _) y0 hy0
  exact Tri.cons (Q := fun y => Bs at_ cap n y.1 ∧ y.1.latest at_ = hdr t [] [])
    (Tri.wr (at_ := at_) (cap := cap) (n := n) (P := Bs at_ cap n) (Q := fun x => Bs at_ cap n x ∧ x.latest at_ = hdr t [] []) (E := fun _ => True) (fun x hx => hx) (by omega) (hdr_len _ _ _ (by decide)) (fun x x' hx b1 s1 s2 => ⟨b1, latest_app s1⟩) (fun _ _ _ _ => trivial))
    (Tri.sy (at_ := at_) (cap := cap) (n := n) (P := fun x => Bs at_ cap n x ∧ x.latest at_ = hdr t [] []) (Q := fun x => x.latest at_ = hdr t [] [] ∧ Settled n x) (E := fun _ => True) (fun x hx => hx.1) (fun x x' hx b1 s1 => ⟨latest_app (l := []) ((s1 at_ (by omega)).trans (by rw [hx.2]; rfl)), fun i hi => by rw [s1 i hi]; rfl⟩) (fun _ _ _ _ => trivial))
/-- A sector of noughts. -/
theorem zero_S (n i : Nat) (hi : i < n) : (D.zero n).S i = [zsect] := by
  unfold D.S D.zero
  rw [List.getD_eq_getElem?_getD, List.getElem?_replicate, if_pos hi]; rfl
theorem zero_p0 (h : at_ + cap < n) : P0 at_ cap n (fun _ => zsect) (D.zero n) := by
  have hl : (D.zero n).vals.length = n := List.length_replicate ..
  refine ⟨⟨fun i hi => ?_, hl, h⟩, fun i hi _ => latest_app (l := []) (zero_S n i hi)⟩
  rw [hl] at hi
  rw [zero_S n i hi]
  exact ⟨by simp, fun s hs => by rw [List.mem_singleton.1 hs]; exact zsect_len⟩
theorem zero_un (n : Nat) : Un 0 (D.zero n) := ⟨rfl, rfl, rfl⟩
theorem zero_small (n : Nat) : SmallV 1 (D.zero n).vals := fun l hl => by
  have := (List.mem_replicate.1 hl).2
  rw [this]; exact Nat.le_refl _
/-- A log is made on a fresh disk. -/
theorem format_zero (h1 : 1 ≤ cap) (hc : cap ≤ 100) (h : at_ + cap < n) : ((D.zero n).format at_ cap).1 = 0 ∧ AA at_ cap n (fun _ => zsect) ((D.zero n).format at_ cap).2 ∧ ((D.zero n).format at_ cap).2.latest at_ = hdr 0 [] [] ∧ Un 2 ((D.zero n).format at_ cap).2 := by
  have hl : (D.zero n).vals.length = n := List.length_replicate ..
  have hp : (D.zero n).logPlace at_ cap := by unfold D.logPlace; omega
  unfold D.format
  rw [if_pos hp]
  have a := empty_tri (M := fun _ => zsect) (t := 0) (by decide) h (D.zero n, 0) (zero_p0 h)
  have b := un_empty (n := n) (m := 0) (t := 0) (by decide) (by decide) (at_ := at_) (by omega) 0 (D.zero n, 0) ⟨hl, zero_un n, rfl⟩
  have e : (runSt (emptyS at_ 0) (D.zero n, 0)).1 = 0 := Classical.byContradiction fun q => (b.2 q).2
  obtain ⟨_, c2, _⟩ := b.1 e
  exact ⟨e, (a.1 e).1, (a.1 e).2, c2⟩
/-- The turn that a log tells. -/
theorem AA.turn (h : AA at_ cap n M x) (h1 : 1 ≤ cap) (hc : cap ≤ 100) (hn : n ≤ 4096) (ho : x.off = false) {t : Nat} (ht : t < 4294967296) (hl : x.latest at_ = hdr t [] []) : (x.logged at_ cap).turn = t := by
  obtain ⟨u, hu, e, g⟩ := h.logged h1 hc hn ho
  rw [g]
  have h1 := hdr_turn t [] []
  rw [← hl, e, hdr_turn] at h1
  show u = t; omega
/-! ### Singletons -/
theorem small_of {B : Nat} {x : D} (h : ∀ i, i < x.vals.length → (x.S i).length ≤ B) : SmallV B x.vals := fun l hl => by
  obtain ⟨i, hi⟩ := List.mem_iff_getElem?.1 hl
  have := h i (List.getElem?_eq_some_iff.1 hi).1
  unfold D.S at this
  rwa [List.getD_eq_getElem?_getD, hi, Option.getD_some] at this
theorem crash_small1 {x : D} (h : x.Wf) (p : List Int) : SmallV 1 (x.crash p).vals := small_of fun i hi => by
  obtain ⟨g1, g2, _, _, g⟩ := crash_plain h p
  obtain ⟨v, _, e⟩ := g i (by rw [← g2]; exact hi)
  rw [e]; exact Nat.le_refl _
end
end Go.Sl
/- What is begun. -/
namespace Go.Sl
open Go.Proofs

theorem empty_small {B : Nat} (hB : 1 ≤ B) {at_ : Int} {t : Nat} {y : WS} (h : SmallV B y.1.vals) : SmallV (B + 1) (runSt (emptyS at_ t) y).2.1.vals := by
  have h1 := write_small h at_ (hdr t [] [])
  have h2 : SmallV (B + 1) (y.1.write at_ (hdr t [] [])).2.sync.2.vals := sync_small (by omega) h1
  show SmallV (B + 1) (if (wrS at_ (hdr t [] []) y).1 = 0 then runSt [syS] (wrS at_ (hdr t [] []) y).2 else wrS at_ (hdr t [] []) y).2.1.vals
  split
  · show SmallV (B + 1) (if (syS (wrS at_ (hdr t [] []) y).2).1 = 0 then ((0 : Int), (syS (wrS at_ (hdr t [] []) y).2).2) else syS (wrS at_ (hdr t [] []) y).2).2.1.vals
    split
    · exact h2
    · exact h2
  · exact h1
theorem format_small {B : Nat} (hB : 1 ≤ B) {x : D} {at_ cap : Int} (h : SmallV B x.vals) : SmallV (B + 1) (x.format at_ cap).2.vals := by
  unfold D.format
  split
  · exact empty_small hB h
  · exact h.le (by omega)
def M0 (k i : Nat) : Sect := if 8 ≤ i ∧ i < k then fullS (UInt8.ofNat i) else zsect
/-- The home's bytes are written, up to k. -/
structure BgW (n k : Nat) (x : D) : Prop where
  p0 : P0 2 5 n (M0 k) x
  emp : ∀ v ∈ x.S 2, Empt v
  un : Un (k - 6) x
  sm : SmallV (10 + k) x.vals
structure Begun (n : Nat) (x : D) : Prop where
  aa : AA 2 5 n (M0 n) x
  un : Un (n - 5) x
  set : Settled n x
theorem BgW.step {n k : Nat} {x : D} (h : BgW n k x) (hk : k < n) (h8 : 8 ≤ k) (hn : n ≤ 1000) : BgW n (k + 1) (x.write (k : Nat) (fullS (UInt8.ofNat k))).2 := by
  obtain ⟨u1, u2, u3⟩ := un_write h.un (by omega) (by omega) (i := k) (by rw [h.p0.1.len]; exact hk) (fullS_len (UInt8.ofNat k))
  rcases h.p0.1.write hk (fullS_len (UInt8.ofNat k)) with ⟨e, _⟩ | ⟨_, b1, s1, s2⟩
  · rw [u1] at e; cases e
  · refine ⟨⟨b1, fun i hi ho => ?_⟩, fun v hv => h.emp v ?_, ?_, write_small h.sm _ _⟩
    · by_cases e : i = k
      · subst e
        rw [latest_app s1]; unfold M0; rw [if_pos (by omega)]
      · rw [latest_same (s2 i e), h.p0.2 i hi ho]; unfold M0
        by_cases q : 8 ≤ i ∧ i < k
        · rw [if_pos q, if_pos (by omega)]
        · rw [if_neg q, if_neg (by omega)]
    · rwa [s2 2 (by omega)] at hv
    · rwa [show (((k + 1 : Nat) : Int) - 6) = (k : Int) - 6 + 1 by omega]
theorem BgW.sync {n : Nat} {x : D} (h : BgW n n x) (h8 : 8 ≤ n) (hn : n ≤ 1000) : Begun n x.sync.2 := by
  obtain ⟨u1, u2, u3⟩ := un_sync h.un (by omega) (by omega)
  rcases h.p0.1.sync with ⟨e, _⟩ | ⟨_, b1, s1⟩
  · rw [u1] at e; cases e
  · refine ⟨⟨b1, fun v hv => ?_, fun i hi ho v hv => ?_⟩, ?_, fun i hi => by rw [s1 i hi]; rfl⟩
    · rw [s1 2 (by omega)] at hv
      rw [List.mem_singleton.1 hv]; exact h.emp _ (h.p0.1.latest (by omega))
    · rw [s1 i hi] at hv
      rw [List.mem_singleton.1 hv]; exact h.p0.2 i hi ho
    · rwa [show ((n : Int) - 5) = (n : Int) - 6 + 1 by omega]
theorem x_byte {P : Program} {ρ : Fr} {w : World} {ty : TypeId} {x : Operand} {s d : TypeId} {n : Nat} (hs : intB P s .i64 = true) (hd : intB P d .u8 = true) (hx : ev ρ x = .int .i64 (n : Nat)) : Ev1 P (.convert s d x) ty ρ w (by1 (UInt8.ofNat n)) w := by
  have h := x_convI (P := P) (ty := ty) (w := w) (q := .i64) (k' := .u8) hs hd hx
  have e : IntKind.u8.wrap (n : Nat) = ((UInt8.ofNat n).toNat : Nat) := by
    rw [UInt8.toNat_ofNat', IntKind.wrap_u8]; omega
  rw [e] at h
  exact h
theorem begun_calls {w : World} (hh : Half w) (s : Int) (h1 : 9 ≤ s) (h2 : s ≤ 100) :
    Calls Tryd.prog 17 #[.int .i64 s] w (Ret fun r w' => ∃ d v x, r = .tuple #[dp d, pp v] ∧ Begun s.toNat x ∧ Sat w w' [DK d x, WALb v d 2 5 0 false]) := by
  refine calls_of Tryd.func17 rfl rfl ?_
  refine WP_r rfl ?_
  refine s_val rfl (x_assign (by conv => lhs; whnf)) ?_
  refine s_val rfl (x_assign (by conv => lhs; whnf)) ?_
  refine s_end ?_
  refine WP_r rfl ?_
  refine s_val rfl (x_move (by conv => lhs; whnf)) ?_
  refine s_call rfl (by kernel_rfl) (New_calls s) rfl rfl ?_
  rintro v w1 ⟨_, hv⟩
  obtain ⟨d, rfl, H⟩ := hv (by omega)
  replace H : Sat w w1 [DK d (D.zero s.toNat)] := H
  refine s_val rfl (x_move (by conv => lhs; whnf)) ?_
  refine s_val rfl (x_extract rfl rfl) ?_
  refine s_val rfl (x_extract rfl rfl) ?_
  refine s_val rfl (x_assign (by conv => lhs; whnf)) ?_
  refine s_val rfl (x_assign (by conv => lhs; whnf)) ?_
  refine s_end ?_
  refine WP_seq ?_
  refine WP_r rfl ?_
  refine s_val rfl (x_move (by conv => lhs; whnf)) ?_
  refine s_val rfl (x_eqlPtrNil (by kernel_rfl) rfl) ?_
  refine s_val rfl (x_move (by conv => lhs; whnf)) ?_
  refine s_val rfl (x_move (by conv => lhs; whnf)) ?_
  refine s_call rfl (by kernel_rfl) (Format_calls H (i := 0) rfl hh 2 5 (Nat.le_refl 1) (zero_small _) (by decide)) rfl rfl ?_
  clear H
  rintro _ _ ⟨rfl, H⟩
  have hf : ((D.zero s.toNat).format 2 5).1 = 0 ∧ AA 2 5 s.toNat (fun _ => zsect) ((D.zero s.toNat).format 2 5).2 ∧ ((D.zero s.toNat).format 2 5).2.latest 2 = hdr 0 [] [] ∧ Un 2 ((D.zero s.toNat).format 2 5).2 := format_zero (at_ := 2) (cap := 5) (n := s.toNat) (by decide) (by decide) (by omega)
  have hs0 : SmallV 2 ((D.zero s.toNat).format 2 5).2.vals := format_small (Nat.le_refl 1) (zero_small _)
  obtain ⟨f1, f2, f3, f4⟩ := hf
  rw [f1]
  generalize ((D.zero s.toNat).format 2 5).2 = x0 at H f2 f3 f4 hs0
  have ho : x0.openD 2 5 = (0, x0) := f2.openD (by decide) (by decide) (by omega) f4.off
  have ht : (x0.logged 2 5).turn = 0 := f2.turn (by decide) (by decide) (by omega) f4.off (by decide) f3
  refine s_val rfl (x_neq rfl rfl) ?_
  refine s_val rfl (x_pick_false rfl (by conv => lhs; whnf)) ?_
  refine s_end ?_
  refine WP_cond_false rfl ?_
  refine WP_skip ?_
  refine thenQ_n ?_
  refine WP_r rfl ?_
  refine s_val rfl (x_move (by conv => lhs; whnf)) ?_
  refine s_call rfl (by kernel_rfl) (Open_calls H (i := 0) rfl hh 2 5 (by decide) hs0 (by decide)) rfl rfl ?_
  clear H
  rw [ho, ht]
  rintro _ _ ⟨p, rfl, _, hv⟩
  obtain ⟨v, rfl, H⟩ := hv rfl
  simp only [List.set_cons_zero, List.cons_append, List.nil_append] at H
  refine s_val rfl (x_move (by conv => lhs; whnf)) ?_
  refine s_val rfl (x_extract rfl rfl) ?_
  refine s_val rfl (x_extract rfl rfl) ?_
  refine s_val rfl (x_assign (by conv => lhs; whnf)) ?_
  refine s_val rfl (x_assign (by conv => lhs; whnf)) ?_
  refine s_end ?_
  refine WP_seq ?_
  refine WP_r rfl ?_
  refine s_val rfl (x_move (by conv => lhs; whnf)) ?_
  refine s_val rfl (x_neq rfl rfl) ?_
  refine s_val rfl (x_move (by conv => lhs; whnf)) ?_
  refine s_val rfl (x_move (by conv => lhs; whnf)) ?_
  refine s_val rfl (x_eqlPtrNil (by kernel_rfl) rfl) ?_
  refine s_val rfl (x_pick_false rfl (by conv => lhs; whnf)) ?_
  refine s_end ?_
  refine WP_cond_false rfl ?_
  refine WP_skip ?_
  refine thenQ_n ?_
  refine WP_seq ?_
  refine WP_r rfl ?_
  refine s_val rfl (x_assign (by conv => lhs; whnf)) ?_
  refine s_end ?_
  refine WP_block ?_
  refine WP_loopA (α := Nat × D) (fun p => [(0, .int .i64 s), (4, dp d), (6, pp v), (8, .int .i64 p.1)]) (fun p w' => 8 ≤ p.1 ∧ p.1 ≤ s.toNat ∧ BgW s.toNat p.1 p.2 ∧ Sat w w' [DK d p.2, WALb v d 2 5 0 false]) (fun p => s.toNat - p.1) (8, x0) ⟨rfl, rfl, rfl, rfl, trivial⟩ ⟨Nat.le_refl _, by show 8 ≤ s.toNat; omega, ⟨⟨f2.1, fun i hi hq => ?_⟩, f2.2.1, f4, hs0.le (by omega)⟩, H⟩ ?_
  · rw [f2.plain.2 i hi hq]; show zsect = M0 8 i; unfold M0; rw [if_neg (by omega)]
  clear H
  rintro ⟨k, x⟩ ρ w5 ⟨hk8, hk, hb, H⟩
  dsimp only at hk8 hk hb H ⊢
  refine WP_seq ?_
  refine WP_r rfl ?_
  refine s_val rfl (x_move (by conv => lhs; whnf)) ?_
  refine s_val rfl (x_move (by conv => lhs; whnf)) ?_
  refine s_val rfl (x_lss rfl rfl) ?_
  refine s_end ?_
  refine WP_cond_dec rfl (fun h1 => ?_) (fun h1 => ?_)
  · skip
    refine WP_skip ?_
    refine thenQ_n ?_
    refine WP_seq ?_
    refine WP_block ?_
    refine WP_region rfl ?_
    refine s_val rfl (x_move (by conv => lhs; whnf)) ?_
    refine s_val rfl (x_move (by conv => lhs; whnf)) ?_
    refine s_val rfl (x_move (by conv => lhs; whnf)) ?_
    refine s_val rfl (x_byte (n := k) (by kernel_rfl) (by kernel_rfl) rfl) ?_
    refine s_call rfl (by kernel_rfl) (full_calls (UInt8.ofNat k)) rfl rfl ?_
    rintro _ _ ⟨fa, rfl, H4⟩
    replace H := H.more H4
    clear H4
    simp only [List.cons_append, List.nil_append] at H
    refine s_call rfl (by kernel_rfl) (dWrite H (i := 0) rfl k (a := fa) (n := 256) (cap := 256) (bs := fullS (UInt8.ofNat k)) (fun w' H' => H'.rd (i := 1) rfl) hb.sm (by omega)) rfl rfl ?_
    clear H
    rintro _ _ ⟨rfl, H⟩
    simp only [List.set_cons_zero] at H
    refine s_end ?_
    refine blockQ_n ?_
    refine thenQ_n ?_
    refine WP_region rfl ?_
    refine s_val rfl (x_move (by conv => lhs; whnf)) ?_
    refine s_val rfl (x_addi rfl rfl (by omega)) ?_
    refine s_val rfl (x_assign (by conv => lhs; whnf)) ?_
    refine s_end ?_
    refine loopQ_A (k + 1, (x.write k (fullS (UInt8.ofNat k))).2) (by show s.toNat - (k + 1) < s.toNat - k; omega) ⟨rfl, rfl, rfl, rfl, trivial⟩ ⟨by show 8 ≤ k + 1; omega, by show k + 1 ≤ s.toNat; omega, hb.step (by omega) hk8 (by omega), H.re 0 2 [0, 1, 2] (by kernel_rfl)⟩
  · skip
    refine WP_exit ?_
    refine thenQ_e ?_
    refine loopQ_e ?_
    refine blockQ_hit ?_
    have hke : k = s.toNat := by omega
    subst hke
    refine thenQ_n ?_
    refine WP_r rfl ?_
    refine s_val rfl (x_move (by conv => lhs; whnf)) ?_
    refine s_call rfl (by kernel_rfl) (dSync H (i := 0) rfl) rfl rfl ?_
    clear H
    rintro _ _ ⟨rfl, H⟩
    simp only [List.set_cons_zero] at H
    refine s_end ?_
    refine WP_r rfl ?_
    refine s_val rfl (x_move (by conv => lhs; whnf)) ?_
    refine s_val rfl (x_move (by conv => lhs; whnf)) ?_
    refine s_val rfl (x_assign (by conv => lhs; whnf)) ?_
    refine s_val rfl (x_assign (by conv => lhs; whnf)) ?_
    refine s_end ?_
    refine WP_ret ?_
    refine retQ_2 rfl (by conv => lhs; whnf) (by conv => lhs; whnf) ?_
    exact ⟨d, v, x.sync.2, rfl, hb.sync (by omega) (by omega), H⟩
end Go.Sl
/- Plain law of a log: how a commit ends. -/
namespace Go.Sl
open Go.Proofs

section
variable {at_ cap n t : Nat} {M : Nat → Sect} {ps : Ps} {x x' : D}
theorem commit_end (h : PsOk at_ cap n ps) (hf : at_ + cap < n) (t : Nat) : Tri (fun y => Bs at_ cap n y.1) (stepsP at_ t ps) (fun y => y.1.latest at_ = hdr (turnUp t) [] [] ∧ Settled n y.1) (fun _ => True) := by
  have hcnt := h.cnt
  have hcap := h.cap
  have sy : Tri (fun y => Bs at_ cap n y.1) [syS] (fun y => Bs at_ cap n y.1) (fun _ => True) := Tri.sy (at_ := at_) (cap := cap) (n := n) (P := Bs at_ cap n) (Q := Bs at_ cap n) (E := fun _ => True) (fun x hx => hx) (fun _ _ _ b _ => b) (fun _ _ _ _ => trivial)
  unfold stepsP
  have a := Tri.many (P := fun _ y => Bs at_ cap n y.1) (E := fun _ => True) (fs := logP at_ ps) fun k f hk2 => by
    obtain ⟨p, hp, rfl⟩ := logP_get hk2
    have hk := (List.getElem?_eq_some_iff.1 hp).1
    exact Tri.wr (at_ := at_) (cap := cap) (n := n) (P := Bs at_ cap n) (Q := Bs at_ cap n) (E := fun _ => True) (fun x hx => hx) (by omega) (h.each p (List.mem_of_getElem? hp)).2.2 (fun _ _ _ b _ _ => b) (fun _ _ _ _ => trivial)
  exact Tri.app a (Tri.cons sy (Tri.cons (Tri.wr (at_ := at_) (cap := cap) (n := n) (P := Bs at_ cap n) (Q := Bs at_ cap n) (E := fun _ => True) (fun x hx => hx) (by omega) (H1_len h) (fun _ _ _ b _ _ => b) (fun _ _ _ _ => trivial)) (Tri.cons sy (Tri.cons (Tri.one fun y hy => .inl ⟨rfl, hy⟩) (home_turn h (Nat.mod_lt _ (by decide)))))))
theorem Settled.small {x : D} (h : Settled n x) (hl : x.vals.length = n) : SmallV 1 x.vals := small_of fun i hi => Nat.le_of_eq (h i (by rw [← hl]; exact hi))
/-- How a commit without a limit ends. -/
theorem commit_settled (h : PsIn at_ cap n ps) (hA : AA at_ cap n M x) (hs : Settled n x) {m : Int} (hu : Un m x) (h0 : 0 ≤ m) (h1 : m < 10000000000) (t : Nat) : Settled n (commitP x t at_ cap false ps).x := by
  by_cases hne : ps = []
  · subst hne
    rw [commitP_none]
    exact hs
  · have e := (commit_un h hA hu h0 h1 t).1
    rw [commitP_good h hA.1.len t hne] at e ⊢
    exact ((commit_end h.sort hA.1.fits t (x, t) hA.1).1 e).2
theorem commit_settled1 (h : PsIn at_ cap n ps) (hA : AA at_ cap n M x) {m : Int} (hu : Un m x) (h0 : 0 ≤ m) (h1 : m < 10000000000) (t : Nat) (hne : ps ≠ []) : Settled n (commitP x t at_ cap false ps).x := by
  have e := (commit_un h hA hu h0 h1 t).1
  rw [commitP_good h hA.1.len t hne] at e ⊢
  exact ((commit_end h.sort hA.1.fits t (x, t) hA.1).1 e).2
end
end Go.Sl
/- The chapter's example works. -/
namespace Go.Sl
open Go.Proofs

theorem blk74 : blkP [7, 4] 9 = [(7, fullS 9), (4, fullS 10)] := by kernel_rfl
theorem blk3 : blkP [3] 1 = [(3, fullS 1)] := by kernel_rfl
theorem in74 : PsIn 0 3 8 [(7, fullS 9), (4, fullS 10)] := by
  refine ⟨by decide, fun p hp => ?_, by decide, by decide, by decide⟩
  simp only [List.mem_cons, List.not_mem_nil, or_false] at hp
  rcases hp with rfl | rfl
  · exact ⟨by decide, by decide, fullS_len _⟩
  · exact ⟨by decide, by decide, fullS_len _⟩
theorem works_calls {w : World} (hh : Half w) : Calls Tryd.prog 7 #[] w (Ret fun v w' => v = .bool true ∧ Ext w w') := by
  refine calls_of Tryd.func7 rfl rfl ?_
  refine WP_r rfl ?_
  refine s_val rfl (x_assign (by conv => lhs; whnf)) ?_
  refine s_end ?_
  refine WP_r rfl ?_
  refine s_call rfl (by kernel_rfl) (New_calls 8) rfl rfl ?_
  rintro v w1 ⟨_, hv⟩
  obtain ⟨d, rfl, H⟩ := hv (by omega)
  replace H : Sat w w1 [DK d (D.zero 8)] := H
  refine s_val rfl (x_move (by conv => lhs; whnf)) ?_
  refine s_val rfl (x_extract rfl rfl) ?_
  refine s_val rfl (x_extract rfl rfl) ?_
  refine s_val rfl (x_assign (by conv => lhs; whnf)) ?_
  refine s_val rfl (x_assign (by conv => lhs; whnf)) ?_
  refine s_end ?_
  refine WP_seq ?_
  refine WP_r rfl ?_
  refine s_val rfl (x_move (by conv => lhs; whnf)) ?_
  refine s_val rfl (x_eqlPtrNil (by kernel_rfl) rfl) ?_
  refine s_val rfl (x_move (by conv => lhs; whnf)) ?_
  refine s_val rfl (x_move (by conv => lhs; whnf)) ?_
  refine s_call rfl (by kernel_rfl) (Format_calls H (i := 0) rfl hh 0 3 (Nat.le_refl 1) (zero_small _) (by decide)) rfl rfl ?_
  clear H
  rintro _ _ ⟨rfl, H⟩
  have hf : ((D.zero 8).format 0 3).1 = 0 ∧ AA 0 3 8 (fun _ => zsect) ((D.zero 8).format 0 3).2 ∧ ((D.zero 8).format 0 3).2.latest 0 = hdr 0 [] [] ∧ Un 2 ((D.zero 8).format 0 3).2 := format_zero (at_ := 0) (cap := 3) (n := 8) (by decide) (by decide) (by decide)
  have hs0 : SmallV 2 ((D.zero 8).format 0 3).2.vals := format_small (Nat.le_refl 1) (zero_small _)
  obtain ⟨f1, f2, f3, f4⟩ := hf
  rw [f1]
  generalize ((D.zero 8).format 0 3).2 = x0 at H f2 f3 f4 hs0
  have ho : x0.openD 0 3 = (0, x0) := f2.openD (by decide) (by decide) (by omega) f4.off
  have ht : (x0.logged 0 3).turn = 0 := f2.turn (by decide) (by decide) (by omega) f4.off (by decide) f3
  refine s_val rfl (x_neq rfl rfl) ?_
  refine s_val rfl (x_pick_false rfl (by conv => lhs; whnf)) ?_
  refine s_end ?_
  refine WP_cond_false rfl ?_
  refine WP_skip ?_
  refine thenQ_n ?_
  refine WP_r rfl ?_
  refine s_val rfl (x_move (by conv => lhs; whnf)) ?_
  refine s_call rfl (by kernel_rfl) (Open_calls H (i := 0) rfl hh 0 3 (by decide) hs0 (by decide)) rfl rfl ?_
  clear H
  rw [ho, ht]
  rintro _ _ ⟨p, rfl, _, hv⟩
  obtain ⟨v, rfl, H⟩ := hv rfl
  simp only [List.set_cons_zero, List.cons_append, List.nil_append] at H
  refine s_val rfl (x_move (by conv => lhs; whnf)) ?_
  refine s_val rfl (x_extract rfl rfl) ?_
  refine s_val rfl (x_extract rfl rfl) ?_
  refine s_val rfl (x_assign (by conv => lhs; whnf)) ?_
  refine s_val rfl (x_assign (by conv => lhs; whnf)) ?_
  refine s_end ?_
  refine WP_seq ?_
  refine WP_r rfl ?_
  refine s_val rfl (x_move (by conv => lhs; whnf)) ?_
  refine s_val rfl (x_eqlPtrNil (by kernel_rfl) rfl) ?_
  refine s_val rfl (x_move (by conv => lhs; whnf)) ?_
  refine s_val rfl (x_move (by conv => lhs; whnf)) ?_
  refine s_val rfl (x_neq rfl rfl) ?_
  refine s_val rfl (x_pick_false rfl (by conv => lhs; whnf)) ?_
  refine s_val rfl (x_move (by conv => lhs; whnf)) ?_
  refine s_val rfl (x_move (by conv => lhs; whnf)) ?_
  refine s_call rfl (by kernel_rfl) (Home_calls (H.wal (i := 1) rfl) (by decide) (by decide)) rfl rfl ?_
  rintro _ _ ⟨rfl, e_⟩; replace H := H.heapEq e_; clear e_
  refine s_val rfl (x_neq rfl rfl) ?_
  refine s_val rfl (x_pick_false rfl (by conv => lhs; whnf)) ?_
  refine s_val rfl (x_move (by conv => lhs; whnf)) ?_
  refine s_val rfl (x_move (by conv => lhs; whnf)) ?_
  refine s_call rfl (by kernel_rfl) (Capacity_calls (H.wal (i := 1) rfl)) rfl rfl ?_
  rintro _ w_ ⟨rfl, e_⟩; replace e_ := e_.symm; subst e_
  refine s_val rfl (x_neq rfl rfl) ?_
  refine s_val rfl (x_pick_false rfl (by conv => lhs; whnf)) ?_
  refine s_end ?_
  refine WP_cond_false rfl ?_
  refine WP_skip ?_
  refine thenQ_n ?_
  refine WP_r rfl ?_
  refine s_val rfl (x_move (by conv => lhs; whnf)) ?_
  refine s_call rfl (by kernel_rfl) (Ops_calls (H.hd (i := 0) rfl)) rfl rfl ?_
  rintro v2 w2 ⟨rfl, e2⟩
  replace H := H.heapEq e2
  clear e2
  rw [f4.taken]
  refine s_val rfl (x_assign (by conv => lhs; whnf)) ?_
  refine s_end ?_
  refine WP_r rfl ?_
  refine s_val rfl (x_move (by conv => lhs; whnf)) ?_
  refine s_buildSliceE (vs := [_, _]) rfl (show SlT Tryd.prog 22 3 1 8 from ⟨by kernel_rfl, by kernel_rfl⟩) (show ∃ z, ZeroT Tryd.prog 3 z ∧ z.cells.size = 1 from ⟨_, (show ZeroT Tryd.prog 3 (.int .i64 0) by unfold ZeroT; kernel_rfl), rfl⟩) rfl ⟨(by conv => lhs; whnf), (by conv => lhs; whnf), trivial⟩ rfl (by simp [Value.cells]) (by decide) H ?_
  clear H; intro b45 _ H
  simp only [List.cons_append, List.nil_append, List.flatMap_cons, List.flatMap_nil, Value.cells, List.append_nil] at H
  refine s_call rfl (by kernel_rfl) (blocks_calls (l := [7, 4]) (H.rd (i := 2) rfl) (by decide) 9) rfl rfl ?_
  rintro _ _ ⟨ba, bc, bks, rfl, hbk, H4⟩
  replace H := H.more H4
  clear H4
  simp only [List.cons_append, List.nil_append] at H
  rw [blk74] at hbk
  have hbl : bks.length = 2 := by rw [← bkP_len, hbk]; rfl
  replace H := H.re 0 3 [0, 1, 3, 2] (by kernel_rfl)
  refine s_call rfl (by kernel_rfl) (Commit_calls (t := 0) H hh (by decide) (by decide) (by decide) (fun w0 w' H' => FBs.rd H' (i := 0) rfl) (by omega) (by decide) hs0 (by decide)) rfl rfl ?_
  clear H
  rintro _ _ ⟨rfl, H⟩
  have hin : PsIn 0 3 8 (bkP bks) := by rw [hbk]; exact in74
  have hc : (commitP x0 0 0 3 false (bkP bks)).e = 0 ∧ AA 0 3 8 (psM (psSort (bkP bks)) fun _ => zsect) (commitP x0 0 0 3 false (bkP bks)).x ∧ (commitP x0 0 0 3 false (bkP bks)).off = false ∧ Un (if bkP bks = [] then 2 else 2 + 2 * (bkP bks).length + 6) (commitP x0 0 0 3 false (bkP bks)).x ∧ (commitP x0 0 0 3 false (bkP bks)).t = ((if bkP bks = [] then 0 else turnUp 0 : Nat) : Int) :=
    commit_un (at_ := 0) (cap := 3) (n := 8) hin f2 f4 (by decide) (by decide) 0
  have hst : Settled 8 (commitP x0 0 0 3 false (bkP bks)).x := commit_settled1 (at_ := 0) (cap := 3) (n := 8) hin f2 f4 (by decide) (by decide) 0 (by rw [hbk]; simp)
  rw [hbk] at hc hst H ⊢
  obtain ⟨c1, c2, c3, c4, c5⟩ := hc
  rw [if_neg (by simp)] at c4 c5
  rw [c1]
  rw [c3, c5] at H
  have hm4 := psM_mem in74 (fun _ => zsect) (p := (4, fullS 10)) (i := 4) (by simp) rfl
  have hm7 := psM_mem in74 (fun _ => zsect) (p := (7, fullS 9)) (i := 7) (by simp) rfl
  generalize (commitP x0 0 0 3 false [(7, fullS 9), (4, fullS 10)]).x = x1 at H c2 c4 hst
  have hp := c2.plain
  have hr4 : x1.read 4 = (0, fullS 10) := by rw [read_at c4.off (by decide) (by rw [c2.1.len]; decide)]; exact congrArg _ ((hp.2 4 (by decide) (.inr (by decide))).trans hm4)
  have hr7 : x1.read 7 = (0, fullS 9) := by rw [read_at c4.off (by decide) (by rw [c2.1.len]; decide)]; exact congrArg _ ((hp.2 7 (by decide) (.inr (by decide))).trans hm7)
  refine s_val rfl (x_assign (by conv => lhs; whnf)) ?_
  refine s_end ?_
  refine WP_r rfl ?_
  refine s_val rfl (x_move (by conv => lhs; whnf)) ?_
  refine s_call rfl (by kernel_rfl) (Read_calls (H.hd (i := 0) rfl) 4) rfl rfl ?_
  rintro _ _ ⟨ra, rn, rc, rfl, H4⟩
  replace H := H.more H4
  clear H4
  simp only [List.cons_append, List.nil_append] at H
  rw [hr4] at H ⊢
  have hrn := (H.rd (i := 3) rfl).1
  rw [bys_length, fullS_len] at hrn
  refine s_val rfl (x_move (by conv => lhs; whnf)) ?_
  refine s_val rfl (x_extract rfl rfl) ?_
  refine s_val rfl (x_extract rfl rfl) ?_
  refine s_val rfl (x_assign (by conv => lhs; whnf)) ?_
  refine s_val rfl (x_assign (by conv => lhs; whnf)) ?_
  refine s_end ?_
  refine WP_r rfl ?_
  refine s_val rfl (x_move (by conv => lhs; whnf)) ?_
  refine s_call rfl (by kernel_rfl) (Read_calls (H.hd (i := 0) rfl) 7) rfl rfl ?_
  rintro _ _ ⟨ra7, rn7, rc7, rfl, H4⟩
  replace H := H.more H4
  clear H4
  simp only [List.cons_append, List.nil_append] at H
  rw [hr7] at H ⊢
  have hrn7 := (H.rd (i := 4) rfl).1
  rw [bys_length, fullS_len] at hrn7
  refine s_val rfl (x_move (by conv => lhs; whnf)) ?_
  refine s_val rfl (x_extract rfl rfl) ?_
  refine s_val rfl (x_extract rfl rfl) ?_
  refine s_val rfl (x_assign (by conv => lhs; whnf)) ?_
  refine s_val rfl (x_assign (by conv => lhs; whnf)) ?_
  refine s_end ?_
  refine WP_r rfl ?_
  refine s_val rfl (x_move (by conv => lhs; whnf)) ?_
  refine s_val rfl (x_eql rfl rfl) ?_
  refine s_val rfl (x_move (by conv => lhs; whnf)) ?_
  refine s_val rfl (x_move (by conv => lhs; whnf)) ?_
  refine s_call rfl (by kernel_rfl) (Ops_calls (H.hd (i := 0) rfl)) rfl rfl ?_
  rintro v2 w2 ⟨rfl, e2⟩
  replace H := H.heapEq e2
  clear e2
  rw [c4.taken]
  refine s_val rfl (x_move (by conv => lhs; whnf)) ?_
  refine s_val rfl (x_addi rfl rfl (by omega)) ?_
  refine s_val rfl (x_eql rfl rfl) ?_
  refine s_val rfl (x_pick_true rfl (by conv => lhs; whnf)) ?_
  refine s_val rfl (x_move (by conv => lhs; whnf)) ?_
  refine s_val rfl (x_move (by conv => lhs; whnf)) ?_
  refine s_val rfl (x_index (show SlT Tryd.prog 44 5 1 1 from ⟨by kernel_rfl, by kernel_rfl⟩) rfl rfl (by omega) (by omega) (H.rd (i := 3) rfl)) ?_
  refine s_val rfl (x_loadR (by kernel_rfl) rfl (H.rd (i := 3) rfl) (show (bys (fullS 10))[0]? = some (.int .u8 10) by kernel_rfl)) ?_
  refine s_val rfl (x_eql rfl rfl) ?_
  refine s_val rfl (x_pick_true rfl (by conv => lhs; whnf)) ?_
  refine s_val rfl (x_move (by conv => lhs; whnf)) ?_
  refine s_val rfl (x_move (by conv => lhs; whnf)) ?_
  refine s_val rfl (x_index (show SlT Tryd.prog 44 5 1 1 from ⟨by kernel_rfl, by kernel_rfl⟩) rfl rfl (by omega) (by omega) (H.rd (i := 4) rfl)) ?_
  refine s_val rfl (x_loadR (by kernel_rfl) rfl (H.rd (i := 4) rfl) (show (bys (fullS 9))[0]? = some (.int .u8 9) by kernel_rfl)) ?_
  refine s_val rfl (x_eql rfl rfl) ?_
  refine s_val rfl (x_pick_true rfl (by conv => lhs; whnf)) ?_
  refine s_val rfl (x_move (by conv => lhs; whnf)) ?_
  refine s_val rfl (x_move (by conv => lhs; whnf)) ?_
  refine s_call rfl (by kernel_rfl) (Turn_calls (H.wal (i := 1) rfl)) rfl rfl ?_
  rintro _ w_ ⟨rfl, e_⟩; replace e_ := e_.symm; subst e_
  refine s_val rfl (x_eql rfl rfl) ?_
  refine s_val rfl (x_pick_true rfl (by conv => lhs; whnf)) ?_
  refine s_val rfl (x_move (by conv => lhs; whnf)) ?_
  refine s_val rfl (x_move (by conv => lhs; whnf)) ?_
  refine s_buildSliceE (vs := [_]) rfl (show SlT Tryd.prog 22 3 1 8 from ⟨by kernel_rfl, by kernel_rfl⟩) (show ∃ z, ZeroT Tryd.prog 3 z ∧ z.cells.size = 1 from ⟨_, (show ZeroT Tryd.prog 3 (.int .i64 0) by unfold ZeroT; kernel_rfl), rfl⟩) rfl ⟨(by conv => lhs; whnf), trivial⟩ rfl (by simp [Value.cells]) (by decide) H ?_
  clear H; intro b86 _ H
  simp only [List.cons_append, List.nil_append, List.flatMap_cons, List.flatMap_nil, Value.cells, List.append_nil] at H
  refine s_call rfl (by kernel_rfl) (blocks_calls (l := [3]) (H.rd (i := 5) rfl) (by decide) 1) rfl rfl ?_
  rintro _ _ ⟨ba3, bc3, bks3, rfl, hbk3, H4⟩
  replace H := H.more H4
  clear H4
  simp only [List.cons_append, List.nil_append] at H
  rw [blk3] at hbk3
  have hbl3 : bks3.length = 1 := by rw [← bkP_len, hbk3]; rfl
  replace H := H.re 0 3 [0, 1, 6, 2, 3, 4, 5] (by kernel_rfl)
  refine s_call rfl (by kernel_rfl) (Commit_calls (t := 1) H hh (by decide) (by decide) (by decide) (fun w0 w' H' => FBs.rd H' (i := 0) rfl) (by omega) (by decide) (hst.small c2.1.len) (by decide)) rfl rfl ?_
  rintro _ _ ⟨rfl, H4⟩
  rw [hbk3, commitP_bad (.inl ⟨(3, fullS 1), by simp, .inl (by decide)⟩)]
  replace H := H4
  refine s_val rfl (x_eql rfl rfl) ?_
  refine s_val rfl (x_pick_true rfl (by conv => lhs; whnf)) ?_
  refine s_val rfl (x_assign (by conv => lhs; whnf)) ?_
  refine s_end ?_
  refine WP_ret ?_
  refine retQ_1 rfl (by conv => lhs; whnf) ?_
  exact ⟨rfl, H.ext⟩
end Go.Sl
/- Plain law of a log: behind a crash without a limit it opens. -/
namespace Go.Sl
open Go.Proofs

structure Free (x : D) : Prop where
  off : x.off = false
  left : x.left = -1
theorem free_take {x : D} (h : Free x) : x.take.1 = true ∧ Free x.take.2 := by
  unfold D.take
  have h2 := h.off
  have h3 := h.left
  rw [if_neg (by rw [h2, h3]; simp)]
  exact ⟨rfl, h2, (by show max (-1) (x.left - 1) = -1; omega)⟩
def FP (n : Nat) (y : WS) : Prop := y.1.vals.length = n ∧ Free y.1
section
variable {at_ cap n t : Nat} {M : Nat → Sect} {ps : Ps} {x x' : D}
theorem Tri.wrF {i : Nat} (hi : i < n) {b : List UInt8} (hb : b.length = 256) : Tri (FP n) [wrS (i : Nat) b] (FP n) No := Tri.one fun y ⟨g1, g2⟩ => by
  obtain ⟨e, u⟩ := free_take g2
  have q : y.1.write (i : Nat) b = (0, y.1.take.2.put ((i : Nat) : Int).toNat b) := by
    unfold D.write
    rw [if_neg (by omega), if_neg (by omega), if_neg (by rw [e]; decide)]
  refine .inl ⟨congrArg (·.1) q, ?_⟩
  show FP n ((y.1.write (i : Nat) b).2, y.2)
  rw [q]
  refine ⟨?_, u.off, u.left⟩
  show (y.1.take.2.vals.set _ _).length = n
  rw [List.length_set, take_vals]; exact g1
theorem Tri.syF : Tri (FP n) [syS] (FP n) No := Tri.one fun y ⟨g1, g2⟩ => by
  obtain ⟨e, u⟩ := free_take g2
  have q : y.1.sync = (0, y.1.take.2.settle (fun (_ : Unit) m => (m, ())) ()) := by
    unfold D.sync
    rw [if_pos e]
  refine .inl ⟨congrArg (·.1) q, ?_⟩
  show FP n (y.1.sync.2, y.2)
  rw [q]
  refine ⟨?_, u.off, u.left⟩
  show (settleL _ y.1.take.2.vals ()).1.length = n
  rw [settleL_length, take_vals]; exact g1
theorem free_home (h : PsOk at_ cap n ps) (hf : at_ + cap < n) (t' : Nat) : Tri (FP n) (homeS at_ t' (psHomes ps) (psData ps)) (FP n) No := by
  have hlen : ∀ p ∈ ps, p.2.length = 256 := fun p hp => (h.each p hp).2.2
  unfold homeS
  have hl0 : (homeS0 (psHomes ps) (psData ps)).length = ps.length := by unfold homeS0 psHomes; rw [List.length_map, List.length_range, List.length_map]
  have a := Tri.many (P := fun _ => FP n) (E := No) (fs := homeS0 (psHomes ps) (psData ps)) fun k f hf => by
    have hk : k < ps.length := by rw [← hl0]; exact (List.getElem?_eq_some_iff.1 hf).1
    obtain ⟨p, hp⟩ : ∃ p, ps[k]? = some p := ⟨_, List.getElem?_eq_getElem hk⟩
    have hpe := h.each p (List.mem_of_getElem? hp)
    have hf2 : f = wrS (p.1.toNat : Nat) p.2 := by
      unfold homeS0 at hf
      rw [List.getElem?_map, List.getElem?_range (by unfold psHomes; rw [List.length_map]; exact hk), Option.map_some, psHomes_get hp, psData_chk hlen hp] at hf
      injection hf with hf; exact hf.symm
    subst hf2
    exact Tri.wrF (by omega) hpe.2.2
  exact Tri.app a (Tri.cons Tri.syF (Tri.cons (Tri.wrF (by omega) (hdr_len _ _ _ (by decide))) Tri.syF))
theorem crash_free (x : D) (p : List Int) : Free (x.crash p) := ⟨rfl, rfl⟩
theorem Mid.bs (h : Mid at_ cap n M t ps x) : Bs at_ cap n x := by
  rcases h with h | h | h | h | h <;> exact h.1
theorem crash_settled (h : Bs at_ cap n x) (p : List Int) : Settled n (x.crash p) := fun i hi => by
  obtain ⟨v, _, e⟩ := (crash_plain h.wf p).2.2.2.2 i (by rw [h.len]; exact hi)
  rw [e]; rfl
/-- A log opens without a limit: as it was, or as it is to be; its turn stays. -/
theorem Mid.openF (h : Mid at_ cap n M t ps x) (hp : PsOk at_ cap n ps) (h1 : 1 ≤ cap) (ht : t < 4294967296) (p : List Int) :
    ((x.crash p).openD at_ cap).1 = 0 ∧ (AA at_ cap n M ((x.crash p).openD at_ cap).2 ∨ AA at_ cap n (psM ps M) ((x.crash p).openD at_ cap).2) ∧ Free ((x.crash p).openD at_ cap).2 ∧ (((x.crash p).openD at_ cap).2.logged at_ cap).turn = ((x.crash p).logged at_ cap).turn ∧ Settled n ((x.crash p).openD at_ cap).2 := by
  have hfr := crash_free x p
  have hst := crash_settled h.bs p
  rcases h.crash hp ht p with g | g | g
  · rw [g.openD h1 hp.cap hp.big hfr.off]; exact ⟨rfl, .inl g, hfr, rfl, hst⟩
  · generalize x.crash p = y at g hfr hst
    have hlg := g.logged hp h1 hfr.off ht
    have hrun : y.openD at_ cap = if psHomes ps = [] then (0, y) else ((runSt (homeS at_ t (psHomes ps) (psData ps)) (y, 0)).1, (runSt (homeS at_ t (psHomes ps) (psData ps)) (y, 0)).2.1) := by
      unfold D.openD
      rw [hlg, if_neg (by simp)]
    by_cases q : psHomes ps = []
    · rw [if_pos q] at hrun
      rw [hrun]
      have e : ps = [] := List.map_eq_nil_iff.1 q
      subst e
      exact ⟨rfl, .inl ⟨g.1, fun v hv => ⟨t, ht, g.2.1 v hv⟩, fun i hi ho v hv => by rcases g.2.2.2 i hi ho v hv with e | e <;> exact e⟩, hfr, rfl, hst⟩
    · rw [if_neg q] at hrun
      have a := home_tri (M := M) hp ht (y, 0) g
      have b := free_home hp g.1.fits t (y, 0) ⟨g.1.len, hfr⟩
      have c := home_turn hp ht (y, 0) g.1
      have e : (runSt (homeS at_ t (psHomes ps) (psData ps)) (y, 0)).1 = 0 := Classical.byContradiction fun q => (b.2 q).2
      rw [hrun, hlg]
      have ha := a.1 e
      have hb := (b.1 e).2
      exact ⟨e, .inr ha, hb, ha.turn h1 hp.cap hp.big hb.off ht (c.1 e).1, (c.1 e).2⟩
  · rw [g.openD h1 hp.cap hp.big hfr.off]; exact ⟨rfl, .inr g, hfr, rfl, hst⟩
theorem AA.mid1 (h : AA at_ cap n M x) : Mid at_ cap n M t ps x := .inl h
theorem AA.mid5 (h : AA at_ cap n (psM ps M) x) : Mid at_ cap n M t ps x := .inr (.inr (.inr (.inr h)))
theorem limit_kept (x : D) (m : Int) : Kept x (x.limit m) := ⟨rfl⟩
theorem Settled.kept (h : Settled n x) (k : Kept x x') : Settled n x' := fun i hi => by rw [k.S]; exact h i hi
/-- The sectors as pairs want them. -/
theorem allP_psM (h : PsIn at_ cap n ps) (hA : AA at_ cap n (psM (psSort ps) M) x) (ho : x.off = false) : allP x ps = true := by
  unfold allP
  rw [List.all_eq_true]
  intro p hp
  have he := h.each p hp
  have hr : x.read p.1 = (0, p.2) := by
    rw [read_at ho (by omega) (by rw [hA.1.len]; omega), hA.plain.2 p.1.toNat (by omega) (.inr (by omega)), psM_mem h M hp (by omega)]
  rw [hr]; simp
/-- .. as they were. -/
theorem allP_M (h : PsIn at_ cap n ps) (hA : AA at_ cap n M x) (ho : x.off = false) : allP x (ps.map fun p => (p.1, M p.1.toNat)) = true := by
  unfold allP
  rw [List.all_map, List.all_eq_true]
  intro p hp
  have he := h.each p hp
  have hr : x.read p.1 = (0, M p.1.toNat) := by
    rw [read_at ho (by omega) (by rw [hA.1.len]; omega), hA.plain.2 p.1.toNat (by omega) (.inr (by omega))]
  show (decide ((x.read p.1).1 = 0) && decide ((x.read p.1).2 = M p.1.toNat)) = true
  rw [hr]; simp
/-- What the laws commit. -/
theorem blk_in {n : Nat} {s : Int} {l : List Int} (hs : s = n) (h : AtsOk s l) (hn : n ≤ 1000) (c : UInt8) : PsIn 2 5 n (blkP l c) := by
  have e1 : (blkP l c).map (·.1) = l := by
    refine List.ext_getElem? fun i => ?_
    rw [List.getElem?_map]
    by_cases hi : i < l.length
    · rw [blkP_get l c i _ (List.getElem?_eq_getElem hi), Option.map_some, List.getElem?_eq_getElem hi]
    · rw [List.getElem?_eq_none (by rw [blkP_len]; omega), List.getElem?_eq_none (by omega)]; rfl
  refine ⟨by rw [e1]; exact h.nodup, fun p hp => ?_, by rw [blkP_len]; exact h.cnt, by decide, by omega⟩
  have h1 : p.1 ∈ l := by rw [← e1]; exact List.mem_map.2 ⟨p, hp, rfl⟩
  have h2 := h.each _ h1
  have h3 : p.2.length = 256 := by
    unfold blkP at hp
    obtain ⟨i, _, rfl⟩ := List.mem_map.1 hp
    exact fullS_len _
  exact ⟨by omega, by omega, h3⟩
end
end Go.Sl
/- WalAgain, walked. -/
namespace Go.Sl
open Go.Proofs

theorem x_eql_yes {P : Program} {ρ : Fr} {w : World} {ty t yt : TypeId} {x y : Operand} {k : IntKind} {a : Int} (hx : ev ρ x = .int k a) (hy : ev ρ y = .int k a) : Ev1 P (.binOp .eql t x y yt) ty ρ w (.bool true) w := by
  have h1 := x_eql (P := P) (ty := ty) (w := w) (t := t) (yt := yt) hx hy
  rwa [decide_eq_true rfl] at h1
theorem SameBytes_same {w : World} {a a' : Option Addr} {n cap n' cap' : Nat} {S : List UInt8} (hr : Rd w a n cap 1 (bys S)) (hr' : Rd w a' n' cap' 1 (bys S)) (hb : n ≤ 4611686018427387904) :
    Calls Tryd.prog 26 #[.slice a n cap, .slice a' n' cap'] w (Ret fun v w' => v = .bool true ∧ core w' = core w) := by
  have h := SameBytes_calls hr hr' hb
  rwa [decide_eq_true rfl] at h
theorem WalAgain_calls {w : World} (hh : Half w) (s : Int) {ia : Option Addr} {n ic : Nat} {l : List Int} (HI : Rd w ia n ic 1 (l.map intF)) (hn : n ≤ 4611686018427387904) (c : UInt8) (N : Int) {pa : Option Addr} {pn pc : Nat} {picks : List Int} (HP : Rd w pa pn pc 1 (picks.map intF)) :
    Calls Tryd.prog 6 #[.int .i64 s, .slice ia n ic, by1 c, .agg #[.int .i64 N, .slice pa pn pc]] w (Ret fun v w' => v = .bool true ∧ Ext w w') := by
  have H := Sat.nil (Ext.refl w)
  have hab := among_bounds s 20 (by decide)
  have hab2 := among_bounds N 24 (by decide)
  refine calls_of Tryd.func6 rfl rfl ?_
  refine WP_r rfl ?_
  refine s_boxA rfl (by conv => lhs; whnf) H ?_
  clear H; intro b7 _ H
  simp only [List.cons_append, List.nil_append] at H
  refine s_val rfl (x_assign (by conv => lhs; whnf)) ?_
  refine s_end ?_
  refine WP_seq ?_
  refine WP_r rfl ?_
  refine s_call rfl (by kernel_rfl) (works_calls (hh.ext H.ext)) rfl rfl ?_
  rintro _ _ ⟨rfl, e_⟩
  replace H := H.more (Sat.nil e_)
  clear e_
  simp only [List.append_nil] at H
  refine s_val rfl (x_not rfl) ?_
  refine s_end ?_
  refine WP_cond_false rfl ?_
  refine WP_skip ?_
  refine thenQ_n ?_
  refine WP_r rfl ?_
  refine s_val rfl (x_move (by conv => lhs; whnf)) ?_
  refine s_call rfl (by kernel_rfl) (Among_calls s 20 (by decide) (by decide)) rfl rfl ?_
  rintro _ w_ ⟨rfl, e_⟩; replace e_ := e_.symm; subst e_
  refine s_val rfl (x_addi rfl rfl (by omega)) ?_
  obtain ⟨m, hm⟩ : ∃ m : Nat, 9 + among s 20 = (m : Int) := ⟨(9 + among s 20).toNat, by omega⟩
  rw [hm]
  have hm9 : 9 ≤ m ∧ m ≤ 28 := by omega
  refine s_val rfl (x_assign (by conv => lhs; whnf)) ?_
  refine s_end ?_
  refine WP_r rfl ?_
  refine s_val rfl (x_move (by conv => lhs; whnf)) ?_
  refine s_call rfl (by kernel_rfl) (begun_calls (hh.ext H.ext) m (by omega) (by omega)) rfl rfl ?_
  rintro _ _ ⟨d, v, x, rfl, hb, H4⟩
  replace H := H.more H4
  clear H4
  rw [Int.toNat_natCast] at hb
  simp only [List.cons_append, List.nil_append] at H
  refine s_val rfl (x_move (by conv => lhs; whnf)) ?_
  refine s_val rfl (x_extract rfl rfl) ?_
  refine s_val rfl (x_extract rfl rfl) ?_
  refine s_val rfl (x_assign (by conv => lhs; whnf)) ?_
  refine s_val rfl (x_assign (by conv => lhs; whnf)) ?_
  refine s_end ?_
  refine WP_seq ?_
  refine WP_r rfl ?_
  refine s_val rfl (x_move (by conv => lhs; whnf)) ?_
  refine s_val rfl (x_eqlPtrNil (by kernel_rfl) rfl) ?_
  refine s_end ?_
  refine WP_cond_false rfl ?_
  refine WP_skip ?_
  refine thenQ_n ?_
  refine WP_r rfl ?_
  refine s_val rfl (x_move (by conv => lhs; whnf)) ?_
  refine s_val rfl (x_field (off := 0) (by kernel_rfl) rfl) ?_
  refine s_val rfl (x_load (by kernel_rfl) rfl (by first | assumption | exact H.cell (i := 0) rfl rfl | exact H.cell (i := 1) rfl rfl | exact H.cell (i := 2) rfl rfl | exact H.cell (i := 3) rfl rfl | exact H.cell (i := 4) rfl rfl | exact H.cell (i := 5) rfl rfl | exact H.cell (i := 6) rfl rfl | exact H.cell (i := 7) rfl rfl | exact H.cell (i := 8) rfl rfl | exact H.cell (i := 9) rfl rfl | exact H.cell (i := 10) rfl rfl | exact H.cell (i := 11) rfl rfl)) ?_
  refine s_call rfl (by kernel_rfl) (Among_calls N 24 (by decide) (by decide)) rfl rfl ?_
  rintro _ w_ ⟨rfl, e_⟩; replace e_ := e_.symm; subst e_
  refine s_call rfl (by kernel_rfl) (dLimit H (i := 1) rfl (among N 24) (by omega)) rfl rfl ?_
  clear H
  rintro _ _ ⟨rfl, H⟩
  simp only [List.set_cons_zero, List.set_cons_succ] at H
  have hk := limit_kept x (among N 24)
  have hA := hb.aa.kept hk
  have hs := hb.set.kept hk
  generalize x.limit (among N 24) = x1 at H hA hs
  refine s_end ?_
  refine WP_r rfl ?_
  refine s_val rfl (x_move (by conv => lhs; whnf)) ?_
  refine s_val rfl (x_move (by conv => lhs; whnf)) ?_
  refine s_val rfl (x_move (by conv => lhs; whnf)) ?_
  refine s_call rfl (by kernel_rfl) (ats_calls (HI.ext H.ext) hn m (by omega) (by omega)) rfl rfl ?_
  rintro _ _ ⟨oa, oc, out, rfl, hout, H4⟩
  replace H := H.more H4
  clear H4
  simp only [List.cons_append, List.nil_append] at H
  refine s_val rfl (x_move (by conv => lhs; whnf)) ?_
  refine s_call rfl (by kernel_rfl) (blocks_calls (l := out) (H.rd (i := 3) rfl) (by have := hout.cnt; omega) c) rfl rfl ?_
  rintro _ _ ⟨ba, bc, bks, rfl, hbk, H4⟩
  replace H := H.more H4
  clear H4
  simp only [List.cons_append, List.nil_append] at H
  have hbl : bks.length = out.length := by rw [← bkP_len, hbk, blkP_len]
  have hH : Sat w _ ([DK d x1, WALb v d 2 5 0 false] ++ [FBs ba out.length bc bks, _]) := H.re 0 4 [1, 2, 4, 0, 3] (by kernel_rfl)
  replace H := hH.tail
  clear hH
  have hin : PsIn 2 5 m (bkP bks) := by rw [hbk]; exact blk_in rfl hout (by omega) c
  refine s_call rfl (by kernel_rfl) (Commit_calls (t := 0) H (hh) (by decide) (by decide) (by decide) (fun w0 w' H' => FBs.rd H'.unall (i := 0) rfl) (by have := hout.cnt; omega) (by decide) (hs.small hA.1.len) (by decide)) rfl rfl ?_
  clear H
  rintro _ _ ⟨rfl, H⟩
  replace H : Sat w _ ([_, _] ++ [_, _]) := Sat.untail H
  simp only [List.cons_append, List.nil_append] at H
  have hmid : Mid 2 5 m (M0 m) (turnUp 0) (psSort (bkP bks)) (commitP x1 0 2 5 false (bkP bks)).x := by
    rcases commit_mid (at_ := 2) (cap := 5) hin hA 0 with ⟨_, h⟩ | ⟨_, h⟩
    · exact h.mid5
    · exact h
  generalize commitP x1 0 2 5 false (bkP bks) = cm at H hmid
  refine s_end ?_
  refine WP_r rfl ?_
  refine s_val rfl (x_move (by conv => lhs; whnf)) ?_
  refine s_val rfl (x_field (off := 1) (by kernel_rfl) rfl) ?_
  refine s_val rfl (x_load (by kernel_rfl) rfl (by first | assumption | exact H.cell (i := 0) rfl rfl | exact H.cell (i := 1) rfl rfl | exact H.cell (i := 2) rfl rfl | exact H.cell (i := 3) rfl rfl | exact H.cell (i := 4) rfl rfl | exact H.cell (i := 5) rfl rfl | exact H.cell (i := 6) rfl rfl | exact H.cell (i := 7) rfl rfl | exact H.cell (i := 8) rfl rfl | exact H.cell (i := 9) rfl rfl | exact H.cell (i := 10) rfl rfl | exact H.cell (i := 11) rfl rfl)) ?_
  refine s_call rfl (by kernel_rfl) (dCrash H (i := 0) rfl (picks := picks) (fun w' H' => HP.ext H'.ext)) rfl rfl ?_
  clear H
  rintro _ _ ⟨rfl, H⟩
  simp only [List.set_cons_zero, List.set_cons_succ] at H
  have hop : ((cm.x.crash picks).openD 2 5).1 = 0 ∧ (AA 2 5 m (M0 m) ((cm.x.crash picks).openD 2 5).2 ∨ AA 2 5 m (psM (psSort (bkP bks)) (M0 m)) ((cm.x.crash picks).openD 2 5).2) ∧ Free ((cm.x.crash picks).openD 2 5).2 ∧ (((cm.x.crash picks).openD 2 5).2.logged 2 5).turn = ((cm.x.crash picks).logged 2 5).turn ∧ Settled m ((cm.x.crash picks).openD 2 5).2 :=
    hmid.openF (at_ := 2) (cap := 5) hin.sort (by decide) (by decide) picks
  have hsm := crash_small1 hmid.bs.wf picks
  refine s_end ?_
  refine WP_r rfl ?_
  refine s_val rfl (x_move (by conv => lhs; whnf)) ?_
  refine s_call rfl (by kernel_rfl) (Open_calls H (i := 0) rfl hh 2 5 (Nat.le_refl 1) hsm (by decide)) rfl rfl ?_
  clear H
  rintro _ _ ⟨p, rfl, _, hv⟩
  obtain ⟨v1, rfl, H⟩ := hv hop.1
  simp only [List.set_cons_zero, List.set_cons_succ, List.cons_append, List.nil_append] at H
  obtain ⟨g1, g2, g3, g4, g5⟩ := hop
  rw [g1]
  rw [← g4] at H
  generalize ((cm.x.crash picks).openD 2 5).2 = x2 at H g2 g3 g5
  have hlen2 : x2.vals.length = m := by rcases g2 with h | h <;> exact h.1.len
  have hopen : x2.openD 2 5 = (0, x2) := by
    rcases g2 with h | h
    · exact h.openD (at_ := 2) (cap := 5) (by decide) (by decide) (by omega) g3.off
    · exact h.openD (at_ := 2) (cap := 5) (by decide) (by decide) (by omega) g3.off
  have hlog : ∃ t, x2.logged 2 5 = ⟨0, t, [], []⟩ := by
    rcases g2 with h | h
    · obtain ⟨t, _, _, e⟩ := h.logged (at_ := 2) (cap := 5) (by decide) (by decide) (by omega) g3.off
      exact ⟨t, e⟩
    · obtain ⟨t, _, _, e⟩ := h.logged (at_ := 2) (cap := 5) (by decide) (by decide) (by omega) g3.off
      exact ⟨t, e⟩
  obtain ⟨tt, hlog⟩ := hlog
  rw [hlog] at H
  dsimp only at H
  refine s_val rfl (x_move (by conv => lhs; whnf)) ?_
  refine s_val rfl (x_extract rfl rfl) ?_
  refine s_val rfl (x_extract rfl rfl) ?_
  refine s_val rfl (x_assign (by conv => lhs; whnf)) ?_
  refine s_val rfl (x_assign (by conv => lhs; whnf)) ?_
  refine s_end ?_
  refine WP_seq ?_
  refine WP_r rfl ?_
  refine s_val rfl (x_move (by conv => lhs; whnf)) ?_
  refine s_val rfl (x_neq rfl rfl) ?_
  refine s_val rfl (x_move (by conv => lhs; whnf)) ?_
  refine s_val rfl (x_move (by conv => lhs; whnf)) ?_
  refine s_val rfl (x_eqlPtrNil (by kernel_rfl) rfl) ?_
  refine s_val rfl (x_pick_false rfl (by conv => lhs; whnf)) ?_
  refine s_end ?_
  refine WP_cond_false rfl ?_
  refine WP_skip ?_
  refine thenQ_n ?_
  refine WP_r rfl ?_
  refine s_val rfl (x_move (by conv => lhs; whnf)) ?_
  refine s_call rfl (by kernel_rfl) (Ops_calls (H.hd (i := 0) rfl)) rfl rfl ?_
  rintro _ _ ⟨rfl, e_⟩; replace H := H.heapEq e_; clear e_
  refine s_val rfl (x_move (by conv => lhs; whnf)) ?_
  refine s_call rfl (by kernel_rfl) (Image_calls (H.hd (i := 0) rfl)) rfl rfl ?_
  rintro _ _ ⟨ga, gc, rfl, H4⟩
  replace H := H.more H4
  clear H4
  simp only [List.cons_append, List.nil_append] at H
  refine s_val rfl (x_assign (by conv => lhs; whnf)) ?_
  refine s_val rfl (x_assign (by conv => lhs; whnf)) ?_
  refine s_end ?_
  refine WP_r rfl ?_
  refine s_val rfl (x_move (by conv => lhs; whnf)) ?_
  refine s_call rfl (by kernel_rfl) (Open_calls H (i := 0) rfl hh 2 5 (Nat.le_refl 1) (g5.small hlen2) (by decide)) rfl rfl ?_
  clear H
  rw [hopen, hlog]
  rintro _ _ ⟨p, rfl, _, hv⟩
  obtain ⟨v2, rfl, H⟩ := hv rfl
  simp only [List.set_cons_zero, List.set_cons_succ, List.cons_append, List.nil_append] at H
  refine s_val rfl (x_move (by conv => lhs; whnf)) ?_
  refine s_val rfl (x_extract rfl rfl) ?_
  refine s_val rfl (x_extract rfl rfl) ?_
  refine s_val rfl (x_assign (by conv => lhs; whnf)) ?_
  refine s_val rfl (x_assign (by conv => lhs; whnf)) ?_
  refine s_end ?_
  refine WP_r rfl ?_
  refine s_val rfl (x_move (by conv => lhs; whnf)) ?_
  refine s_call rfl (by kernel_rfl) (Check_calls (hh.ext H.ext) (H.hd (i := 0) rfl) 2 5) rfl rfl ?_
  rintro _ _ ⟨ka, kn, kc, rfl, H4⟩
  replace H := H.more H4
  clear H4
  rw [hlog] at H ⊢
  simp only [List.cons_append, List.nil_append] at H
  obtain rfl : kn = 0 := by have := (H.rd (i := 7) rfl).1; simp at this; omega
  refine s_val rfl (x_move (by conv => lhs; whnf)) ?_
  refine s_val rfl (x_extract rfl rfl) ?_
  refine s_val rfl (x_extract rfl rfl) ?_
  refine s_val rfl (x_assign (by conv => lhs; whnf)) ?_
  refine s_val rfl (x_assign (by conv => lhs; whnf)) ?_
  refine s_end ?_
  refine WP_r rfl ?_
  refine s_val rfl (x_move (by conv => lhs; whnf)) ?_
  refine s_val rfl (x_eql rfl rfl) ?_
  refine s_val rfl (x_move (by conv => lhs; whnf)) ?_
  refine s_val rfl (x_move (by conv => lhs; whnf)) ?_
  refine s_val rfl (x_neqPtrNil (by kernel_rfl) rfl) ?_
  refine s_val rfl (x_pick_true rfl (by conv => lhs; whnf)) ?_
  refine s_val rfl (x_move (by conv => lhs; whnf)) ?_
  refine s_val rfl (x_move (by conv => lhs; whnf)) ?_
  refine s_val rfl (x_eql rfl rfl) ?_
  refine s_val rfl (x_pick_true rfl (by conv => lhs; whnf)) ?_
  refine s_val rfl (x_move (by conv => lhs; whnf)) ?_
  refine s_val rfl (x_move (by conv => lhs; whnf)) ?_
  refine s_val rfl (x_lenS (by kernel_rfl) rfl) ?_
  refine s_val rfl (x_eql rfl rfl) ?_
  refine s_val rfl (x_pick_true rfl (by conv => lhs; whnf)) ?_
  refine s_val rfl (x_move (by conv => lhs; whnf)) ?_
  refine s_val rfl (x_move (by conv => lhs; whnf)) ?_
  refine s_call rfl (by kernel_rfl) (Ops_calls (H.hd (i := 0) rfl)) rfl rfl ?_
  rintro _ _ ⟨rfl, e_⟩; replace H := H.heapEq e_; clear e_
  refine s_val rfl (x_move (by conv => lhs; whnf)) ?_
  refine s_val rfl (x_eql_yes rfl rfl) ?_
  refine s_val rfl (x_pick_true rfl (by conv => lhs; whnf)) ?_
  refine s_val rfl (x_move (by conv => lhs; whnf)) ?_
  refine s_val rfl (x_move (by conv => lhs; whnf)) ?_
  refine s_call rfl (by kernel_rfl) (Image_calls (H.hd (i := 0) rfl)) rfl rfl ?_
  rintro _ _ ⟨ga2, gc2, rfl, H4⟩
  replace H := H.more H4
  clear H4
  simp only [List.cons_append, List.nil_append] at H
  refine s_val rfl (x_move (by conv => lhs; whnf)) ?_
  refine s_call rfl (by kernel_rfl) (SameBytes_same (H.rd (i := 8) rfl) (H.rd (i := 5) rfl) (by have := (H.hd (i := 0) rfl).ok.big; omega)) rfl rfl ?_
  rintro _ _ ⟨rfl, e_⟩; replace H := H.heapEq e_; clear e_
  refine s_val rfl (x_pick_true rfl (by conv => lhs; whnf)) ?_
  refine s_val rfl (x_move (by conv => lhs; whnf)) ?_
  refine s_val rfl (x_move (by conv => lhs; whnf)) ?_
  refine s_call rfl (by kernel_rfl) (Turn_calls (H.wal (i := 4) rfl)) rfl rfl ?_
  rintro _ w_ ⟨rfl, e_⟩; replace e_ := e_.symm; subst e_
  refine s_val rfl (x_move (by conv => lhs; whnf)) ?_
  refine s_call rfl (by kernel_rfl) (Turn_calls (H.wal (i := 6) rfl)) rfl rfl ?_
  rintro _ w_ ⟨rfl, e_⟩; replace e_ := e_.symm; subst e_
  refine s_val rfl (x_eql_yes rfl rfl) ?_
  refine s_val rfl (x_pick_true rfl (by conv => lhs; whnf)) ?_
  refine s_val rfl (x_assign (by conv => lhs; whnf)) ?_
  refine s_end ?_
  refine WP_ret ?_
  refine retQ_1 rfl (by conv => lhs; whnf) ?_
  exact ⟨rfl, H.ext⟩
end Go.Sl
/- WalCosts, walked. -/
namespace Go.Sl
open Go.Proofs

theorem x_slice256 {P : Program} {ρ : Fr} {w : World} {ty t e bytes : Nat} {x lo hi : Operand} {a : Option Addr} {n cap : Nat} {i j : Int} (k : Nat) (ht : SlT P t e 1 bytes) (hx : ev ρ x = .slice a n cap) (hlo : ev ρ lo = .int .i64 i) (hhi : ev ρ hi = .int .i64 j) (h0 : i = k * 256) (h1 : j = k * 256 + 256)
    (h2 : k * 256 + 256 ≤ n) (hc : n ≤ cap) : Ev1 P (.slice t x (some lo) (some hi) none) ty ρ w (.slice (cutAt a cap (k * 256) 1) 256 (cap - k * 256)) w := by
  subst h0 h1
  have h := x_slice (P := P) (ty := ty) (w := w) ht hx hlo hhi (by omega) (by omega) (by omega) hc
  have e1 : ((k : Int) * 256).toNat = k * 256 := by omega
  have e2 : ((k : Int) * 256 + 256).toNat = k * 256 + 256 := by omega
  have e3 : k * 256 + 256 - k * 256 = 256 := Nat.add_sub_cancel_left ..
  rw [e1, e2, e3] at h
  exact h
theorem rd_256 {w : World} {a : Option Addr} {n cap : Nat} {S : List UInt8} (h : Rd w a n cap 1 (bys S)) (k : Nat) (hk : k * 256 + 256 ≤ n) : Rd w (cutAt a cap (k * 256) 1) 256 (cap - k * 256) 1 (bys ((S.drop (k * 256)).take 256)) := by
  have hs := cutAt_sub (lo := k * 256) (hi := k * 256 + 256) h (Nat.le_add_right _ _) hk
  rw [Nat.add_sub_cancel_left] at hs
  have := h.sub hs (cap' := cap - k * 256) (by omega) (by have := h.2.1; omega)
  rwa [Nat.mul_one, Nat.mul_one, bys_drop, bys_take] at this
theorem image_at {x : D} (h : x.Wf) {i : Nat} (hi : i < x.vals.length) : ((x.image.drop (i * 256)).take 256) = x.latest i := by
  have key : ∀ (v : List (List Sect)) (i : Nat), (∀ j, j < v.length → ((v.getD j []).getLastD []).length = 256) → i < v.length → (((v.map fun l => l.getLastD []).flatten.drop (i * 256)).take 256) = (v.getD i []).getLastD [] := by
    intro v
    induction v with
    | nil => intro i _ hi; simp at hi
    | cons l v ih =>
      intro i hw hi
      have h0 : (l.getLastD []).length = 256 := hw 0 (by simp)
      rw [List.map_cons, List.flatten_cons]
      cases i with
      | zero => rw [Nat.zero_mul, List.drop_zero, List.take_left' h0]; rfl
      | succ i =>
        rw [show (i + 1) * 256 = (l.getLastD []).length + i * 256 by omega, List.drop_length_add_append]
        exact ih i (fun j hj => hw (j + 1) (by simpa using hj)) (by simpa using hi)
  exact key x.vals i (fun j hj => (h j hj).2 _ (D.latest_mem h hj)) hi
theorem Settled.pend {n : Nat} {x : D} (h : Settled n x) (hl : x.vals.length = n) : x.pend = 0 := by
  have hs := h.small hl
  unfold D.pend
  rw [List.length_eq_zero_iff, List.filter_eq_nil_iff]
  intro l hm
  have := hs l hm
  simp; omega
/-- Does a commit write there? -/
def hitB (l : List Bk) (i k : Nat) : Bool := decide (2 ≤ i ∧ i < 8) || (l.take k).any fun b => decide (b.at_ = (i : Int))
theorem hitB_none {l : List Bk} {i : Nat} {m : Nat} (h : hitB l i l.length = false) (hi : i < m) : Hom 2 5 i ∧ ∀ p ∈ bkP l, p.1 ≠ (i : Int) := by
  unfold hitB at h
  rw [List.take_length, Bool.or_eq_false_iff] at h
  obtain ⟨h1, h2⟩ := h
  have h1 := of_decide_eq_false h1
  refine ⟨by unfold Hom; omega, fun p hp e => ?_⟩
  obtain ⟨b, hb, rfl⟩ := List.mem_map.1 hp
  exact absurd (List.any_eq_true.2 ⟨b, hb, decide_eq_true e⟩) (by rw [h2]; decide)
theorem WalCosts_calls {w : World} (hh : Half w) (s : Int) {ia : Option Addr} {n ic : Nat} {l : List Int} (HI : Rd w ia n ic 1 (l.map intF)) (hn : n ≤ 4611686018427387904) (c : UInt8) :
    Calls Tryd.prog 5 #[.int .i64 s, .slice ia n ic, by1 c] w (Ret fun v w' => v = .bool true ∧ Ext w w') := by
  have H := Sat.nil (Ext.refl w)
  have hab := among_bounds s 20 (by decide)
  refine calls_of Tryd.func5 rfl rfl ?_
  refine WP_r rfl ?_
  refine s_val rfl (x_assign (by conv => lhs; whnf)) ?_
  refine s_end ?_
  refine WP_seq ?_
  refine WP_r rfl ?_
  refine s_call rfl (by kernel_rfl) (works_calls (hh.ext H.ext)) rfl rfl ?_
  rintro _ _ ⟨rfl, e_⟩
  replace H := H.more (Sat.nil e_)
  clear e_
  simp only [List.append_nil] at H
  refine s_val rfl (x_not rfl) ?_
  refine s_end ?_
  refine WP_cond_false rfl ?_
  refine WP_skip ?_
  refine thenQ_n ?_
  refine WP_r rfl ?_
  refine s_val rfl (x_move (by conv => lhs; whnf)) ?_
  refine s_call rfl (by kernel_rfl) (Among_calls s 20 (by decide) (by decide)) rfl rfl ?_
  rintro _ w_ ⟨rfl, e_⟩; replace e_ := e_.symm; subst e_
  refine s_val rfl (x_addi rfl rfl (by omega)) ?_
  obtain ⟨m, hm⟩ : ∃ m : Nat, 9 + among s 20 = (m : Int) := ⟨(9 + among s 20).toNat, by omega⟩
  rw [hm]
  have hm9 : 9 ≤ m ∧ m ≤ 28 := by omega
  refine s_val rfl (x_assign (by conv => lhs; whnf)) ?_
  refine s_end ?_
  refine WP_r rfl ?_
  refine s_val rfl (x_move (by conv => lhs; whnf)) ?_
  refine s_call rfl (by kernel_rfl) (begun_calls (hh.ext H.ext) m (by omega) (by omega)) rfl rfl ?_
  rintro _ _ ⟨d, v, x, rfl, hb, H4⟩
  replace H := H.more H4
  clear H4
  rw [Int.toNat_natCast] at hb
  simp only [List.nil_append] at H
  have hxl := hb.aa.1.len
  refine s_val rfl (x_move (by conv => lhs; whnf)) ?_
  refine s_val rfl (x_extract rfl rfl) ?_
  refine s_val rfl (x_extract rfl rfl) ?_
  refine s_val rfl (x_assign (by conv => lhs; whnf)) ?_
  refine s_val rfl (x_assign (by conv => lhs; whnf)) ?_
  refine s_end ?_
  refine WP_seq ?_
  refine WP_r rfl ?_
  refine s_val rfl (x_move (by conv => lhs; whnf)) ?_
  refine s_val rfl (x_eqlPtrNil (by kernel_rfl) rfl) ?_
  refine s_end ?_
  refine WP_cond_false rfl ?_
  refine WP_skip ?_
  refine thenQ_n ?_
  refine WP_r rfl ?_
  refine s_val rfl (x_move (by conv => lhs; whnf)) ?_
  refine s_val rfl (x_move (by conv => lhs; whnf)) ?_
  refine s_call rfl (by kernel_rfl) (ats_calls (HI.ext H.ext) hn m (by omega) (by omega)) rfl rfl ?_
  rintro _ _ ⟨oa, oc, out, rfl, hout, H4⟩
  replace H := H.more H4
  clear H4
  simp only [List.cons_append, List.nil_append] at H
  refine s_val rfl (x_move (by conv => lhs; whnf)) ?_
  refine s_call rfl (by kernel_rfl) (blocks_calls (l := out) (H.rd (i := 2) rfl) (by have := hout.cnt; omega) c) rfl rfl ?_
  rintro _ _ ⟨ba, bc, bks, rfl, hbk, H4⟩
  replace H := H.more H4
  clear H4
  simp only [List.cons_append, List.nil_append] at H
  have hbl : bks.length = out.length := by rw [← bkP_len, hbk, blkP_len]
  have hc5 := hout.cnt
  have hin : PsIn 2 5 m (bkP bks) := by rw [hbk]; exact blk_in rfl hout (by omega) c
  refine s_val rfl (x_assign (by conv => lhs; whnf)) ?_
  refine s_end ?_
  refine WP_r rfl ?_
  refine s_val rfl (x_move (by conv => lhs; whnf)) ?_
  refine s_call rfl (by kernel_rfl) (Ops_calls (H.hd (i := 0) rfl)) rfl rfl ?_
  rintro v2 w2 ⟨rfl, e2⟩
  replace H := H.heapEq e2
  clear e2
  rw [hb.un.taken]
  refine s_val rfl (x_move (by conv => lhs; whnf)) ?_
  refine s_call rfl (by kernel_rfl) (Image_calls (H.hd (i := 0) rfl)) rfl rfl ?_
  rintro _ _ ⟨ga, gc, rfl, H4⟩
  replace H := H.more H4
  clear H4
  simp only [List.cons_append, List.nil_append] at H
  rw [hxl] at H ⊢
  have hH : Sat w _ ([DK d x, WALb v d 2 5 0 false] ++ [FBs ba out.length bc bks, slo 5 1 ga (256 * m) gc (bys x.image)]) := H.re 0 4 [0, 1, 3, 4, 2] (by kernel_rfl)
  replace H := hH.tail
  clear hH
  refine s_val rfl (x_assign (by conv => lhs; whnf)) ?_
  refine s_val rfl (x_assign (by conv => lhs; whnf)) ?_
  refine s_end ?_
  refine WP_seq ?_
  refine WP_r rfl ?_
  refine s_val rfl (x_move (by conv => lhs; whnf)) ?_
  refine s_val rfl (x_move (by conv => lhs; whnf)) ?_
  refine s_call rfl (by kernel_rfl) (Commit_calls (t := 0) H (hh) (by decide) (by decide) (by decide) (fun w0 w' H' => FBs.rd H'.unall (i := 0) rfl) (by omega) (by decide) (hb.set.small hxl) (by decide)) rfl rfl ?_
  clear H
  rintro _ _ ⟨rfl, H⟩
  replace H : Sat w _ ([_, _] ++ [_, _]) := Sat.untail H
  simp only [List.cons_append, List.nil_append] at H
  have hcu := commit_un (at_ := 2) (cap := 5) hin hb.aa hb.un (by omega) (by omega) 0
  have hst0 := commit_settled (at_ := 2) (cap := 5) hin hb.aa hb.set hb.un (by omega) (by omega) 0
  obtain ⟨cm, hcm⟩ : ∃ cm, commitP x 0 2 5 false (bkP bks) = cm := ⟨_, rfl⟩
  have hcm' : commitP x ((0 : Nat) : Int).toNat ((2 : Nat) : Int) ((5 : Nat) : Int) false (bkP bks) = cm := hcm
  rw [show ((0 : Nat) : Int).toNat = 0 from rfl] at hcm'
  rw [hcm'] at hcu hst0
  rw [hcm] at H ⊢
  obtain ⟨c1, c2, c3, c4, _⟩ := hcu
  rw [c1]
  have hst := hst0
  have hal := allP_psM hin c2 c4.off
  have hcl := c2.1.len
  refine s_val rfl (x_neq rfl rfl) ?_
  refine s_val rfl (x_move (by conv => lhs; whnf)) ?_
  refine s_val rfl (x_move (by conv => lhs; whnf)) ?_
  refine s_val rfl (x_move (by conv => lhs; whnf)) ?_
  refine s_call rfl (by kernel_rfl) (all_calls (H.hd (i := 0) rfl) (FBs.rd H (i := 2) rfl).1 (by omega) (FBs.rd H (i := 2) rfl).2) rfl rfl ?_
  rintro _ _ ⟨rfl, e_⟩
  replace H := H.more (Sat.nil e_)
  clear e_
  simp only [List.cons_append, List.nil_append] at H
  rw [hal]
  refine s_val rfl (x_not rfl) ?_
  refine s_val rfl (x_pick_false rfl (by conv => lhs; whnf)) ?_
  refine s_val rfl (x_move (by conv => lhs; whnf)) ?_
  refine s_val rfl (x_move (by conv => lhs; whnf)) ?_
  refine s_call rfl (by kernel_rfl) (Pending_calls (H.hd (i := 0) rfl)) rfl rfl ?_
  rintro v2 w2 ⟨rfl, e2⟩
  replace H := H.heapEq e2
  clear e2
  rw [hst.pend hcl]
  refine s_val rfl (x_neq rfl rfl) ?_
  refine s_val rfl (x_pick_false rfl (by conv => lhs; whnf)) ?_
  refine s_end ?_
  refine WP_cond_false rfl ?_
  refine WP_skip ?_
  refine thenQ_n ?_
  refine WP_r rfl ?_
  refine s_val rfl (x_assign (by conv => lhs; whnf)) ?_
  refine s_end ?_
  refine WP_meetA (α := Nat) (fun q => [(0, .int .i64 m), (7, dp d), (9, .slice ba out.length bc), (10, .int .i64 ((m : Int) - 5)), (11, .slice ga (256 * m) gc), (12, .int .i64 q)]) (fun q w' => q = (if bkP bks = [] then 0 else 2 * out.length + 6) ∧ Sat w w' [DK d cm.x, WALb v d 2 5 cm.t cm.off, FBs ba out.length bc bks, slo 5 1 ga (256 * m) gc (bys x.image)]) ?_ ?_
  · skip
    refine WP_r rfl ?_
    refine s_val rfl (x_move (by conv => lhs; whnf)) ?_
    refine s_val rfl (x_lenS (by kernel_rfl) rfl) ?_
    refine s_val rfl (x_gtr rfl rfl) ?_
    refine s_end ?_
    refine WP_cond_dec rfl (fun h1 => ?_) (fun h1 => ?_)
    · skip
      refine WP_region rfl ?_
      refine s_val rfl (x_move (by conv => lhs; whnf)) ?_
      refine s_val rfl (x_lenS (by kernel_rfl) rfl) ?_
      refine s_val rfl (x_muli rfl rfl (by omega)) ?_
      refine s_val rfl (x_addi rfl rfl (by omega)) ?_
      refine s_val rfl (x_assign (by conv => lhs; whnf)) ?_
      refine s_end ?_
      first
        | refine thenQ_meet (2 * out.length + 6) ⟨rfl, rfl, rfl, rfl, rfl, rfl, trivial⟩ ⟨?_, H⟩
          rw [if_neg (fun q => by have := bkP_len bks; rw [q, List.length_nil] at this; omega)]
        | refine thenQ_meet 0 ⟨rfl, rfl, rfl, rfl, rfl, rfl, trivial⟩ ⟨?_, H⟩
          rw [if_pos (List.length_eq_zero_iff.1 (by rw [bkP_len]; omega))]
    · skip
      refine WP_skip ?_
      first
        | refine thenQ_meet (2 * out.length + 6) ⟨rfl, rfl, rfl, rfl, rfl, rfl, trivial⟩ ⟨?_, H⟩
          rw [if_neg (fun q => by have := bkP_len bks; rw [q, List.length_nil] at this; omega)]
        | refine thenQ_meet 0 ⟨rfl, rfl, rfl, rfl, rfl, rfl, trivial⟩ ⟨?_, H⟩
          rw [if_pos (List.length_eq_zero_iff.1 (by rw [bkP_len]; omega))]
  · skip
    clear H
    rintro q ρ w9 ⟨hq, H⟩
    have hq2 : q ≤ 16 := by rw [hq]; split <;> omega
    refine WP_r rfl ?_
    refine s_val rfl (x_move (by conv => lhs; whnf)) ?_
    refine s_call rfl (by kernel_rfl) (Image_calls (H.hd (i := 0) rfl)) rfl rfl ?_
    rintro _ _ ⟨na, nc, rfl, H4⟩
    replace H := H.more H4
    clear H4
    simp only [List.cons_append, List.nil_append] at H
    rw [hcl] at H ⊢
    refine s_val rfl (x_assign (by conv => lhs; whnf)) ?_
    refine s_end ?_
    refine WP_seq ?_
    refine WP_r rfl ?_
    refine s_val rfl (x_assign (by conv => lhs; whnf)) ?_
    refine s_end ?_
    refine WP_block ?_
    refine WP_loopA (α := Nat) (fun i => [(0, .int .i64 m), (7, dp d), (9, .slice ba out.length bc), (10, .int .i64 ((m : Int) - 5)), (11, .slice ga (256 * m) gc), (12, .int .i64 q), (13, .slice na (256 * m) nc), (14, .int .i64 i)])
      (fun i w' => i ≤ m ∧ Sat w w' [DK d cm.x, WALb v d 2 5 cm.t cm.off, FBs ba out.length bc bks, slo 5 1 ga (256 * m) gc (bys x.image), slo 5 1 na (256 * m) nc (bys cm.x.image)]) (fun i => m - i) 0 ⟨rfl, rfl, rfl, rfl, rfl, rfl, rfl, rfl, trivial⟩ ⟨Nat.zero_le _, H⟩ ?_
    clear H
    rintro i ρ w10 ⟨hi, H⟩
    refine WP_seq ?_
    refine WP_r rfl ?_
    refine s_val rfl (x_move (by conv => lhs; whnf)) ?_
    refine s_val rfl (x_move (by conv => lhs; whnf)) ?_
    refine s_val rfl (x_lss rfl rfl) ?_
    refine s_end ?_
    refine WP_cond_dec rfl (fun h2 => ?_) (fun h2 => ?_)
    · skip
      refine WP_skip ?_
      refine thenQ_n ?_
      refine WP_seq ?_
      refine WP_block ?_
      refine WP_meetA (α := Bool) (fun p => [(0, .int .i64 m), (7, dp d), (9, .slice ba out.length bc), (10, .int .i64 ((m : Int) - 5)), (11, .slice ga (256 * m) gc), (12, .int .i64 q), (13, .slice na (256 * m) nc), (14, .int .i64 i), (15, .bool p)])
        (fun p w' => p = decide (2 ≤ i ∧ i < 8) ∧ Sat w w' [DK d cm.x, WALb v d 2 5 cm.t cm.off, FBs ba out.length bc bks, slo 5 1 ga (256 * m) gc (bys x.image), slo 5 1 na (256 * m) nc (bys cm.x.image)]) ?_ ?_
      · skip
        refine WP_region rfl ?_
        refine s_val rfl (x_move (by conv => lhs; whnf)) ?_
        refine s_val rfl (x_geq rfl rfl) ?_
        refine s_dec rfl (x_move rfl) (fun h3 => ?_) (fun h3 => ?_)
        · skip
          refine s_val rfl (x_move (by conv => lhs; whnf)) ?_
          refine s_val rfl (x_lss rfl rfl) ?_
          refine s_val rfl (x_pick_true rfl (by conv => lhs; whnf)) ?_
          refine s_val rfl (x_assign (by conv => lhs; whnf)) ?_
          refine s_end ?_
          exact thenQ_meet _ ⟨rfl, rfl, rfl, rfl, rfl, rfl, rfl, rfl, rfl, trivial⟩ ⟨by first | (rw [decide_eq_false (by omega)]; done) | (apply decide_eq_decide.2; omega), H⟩
        · skip
          refine s_out rfl ?_
          refine s_out rfl ?_
          refine s_val rfl (x_pick_false rfl (by conv => lhs; whnf)) ?_
          refine s_val rfl (x_assign (by conv => lhs; whnf)) ?_
          refine s_end ?_
          exact thenQ_meet _ ⟨rfl, rfl, rfl, rfl, rfl, rfl, rfl, rfl, rfl, trivial⟩ ⟨by first | (rw [decide_eq_false (by omega)]; done) | (apply decide_eq_decide.2; omega), H⟩
      · skip
        clear H
        rintro p18 ρ w11 ⟨hp18, H⟩
        refine WP_seq ?_
        refine WP_r rfl ?_
        refine s_val rfl (x_assign (by conv => lhs; whnf)) ?_
        refine s_end ?_
        refine WP_block ?_
        refine WP_loopA (α := Nat) (fun k => [(0, .int .i64 m), (7, dp d), (9, .slice ba out.length bc), (10, .int .i64 ((m : Int) - 5)), (11, .slice ga (256 * m) gc), (12, .int .i64 q), (13, .slice na (256 * m) nc), (14, .int .i64 i), (15, .bool (hitB bks i k)), (16, .int .i64 k)])
          (fun k w' => k ≤ out.length ∧ Sat w w' [DK d cm.x, WALb v d 2 5 cm.t cm.off, FBs ba out.length bc bks, slo 5 1 ga (256 * m) gc (bys x.image), slo 5 1 na (256 * m) nc (bys cm.x.image)]) (fun k => out.length - k) 0 ⟨rfl, rfl, rfl, rfl, rfl, rfl, rfl, rfl, by rw [hp18]; show _ = Value.bool (_ || _); rw [List.take_zero, List.any_nil, Bool.or_false]; rfl, rfl, trivial⟩ ⟨Nat.zero_le _, H⟩ ?_
        clear H
        rintro k ρ w12 ⟨hk, H⟩
        refine WP_seq ?_
        refine WP_r rfl ?_
        refine s_val rfl (x_move (by conv => lhs; whnf)) ?_
        refine s_val rfl (x_move (by conv => lhs; whnf)) ?_
        refine s_val rfl (x_lenS (by kernel_rfl) rfl) ?_
        refine s_val rfl (x_lss rfl rfl) ?_
        refine s_end ?_
        refine WP_cond_dec rfl (fun h4 => ?_) (fun h4 => ?_)
        · skip
          refine WP_skip ?_
          refine thenQ_n ?_
          refine WP_seq ?_
          refine WP_block ?_
          obtain ⟨b, hbk2⟩ : ∃ b, bks[k]? = some b := ⟨_, List.getElem?_eq_getElem (by omega)⟩
          have hg0 := bkCells_get bks k b 0 hbk2 (by decide)
          have hbcl := bkCells_len bks
          have hhs : hitB bks i (k + 1) = (hitB bks i k || decide (b.at_ = (i : Int))) := by
            unfold hitB
            rw [List.take_add_one, hbk2, Option.toList_some, List.any_append, List.any_cons, List.any_nil, Bool.or_false, Bool.or_assoc]
          refine WP_region rfl ?_
          refine s_val rfl (x_move (by conv => lhs; whnf)) ?_
          refine s_bool rfl (x_move rfl) (fun h5 => ?_) (fun h5 => ?_)
          · skip
            refine s_out rfl ?_
            refine s_out rfl ?_
            refine s_out rfl ?_
            refine s_out rfl ?_
            refine s_out rfl ?_
            refine s_out rfl ?_
            refine s_out rfl ?_
            refine s_val rfl (x_pick_true rfl (by conv => lhs; whnf)) ?_
            refine s_val rfl (x_assign (by conv => lhs; whnf)) ?_
            refine s_end ?_
            refine blockQ_n ?_
            refine thenQ_n ?_
            refine WP_region rfl ?_
            refine s_val rfl (x_move (by conv => lhs; whnf)) ?_
            refine s_val rfl (x_addi rfl rfl (by omega)) ?_
            refine s_val rfl (x_assign (by conv => lhs; whnf)) ?_
            refine s_end ?_
            refine loopQ_A (k + 1) (by omega) ⟨rfl, rfl, rfl, rfl, rfl, rfl, rfl, rfl, by first | (rw [hhs, (by assumption : hitB bks i k = true), Bool.true_or]; rfl) | (rw [hhs, (by assumption : hitB bks i k = false), Bool.false_or]; first | rfl | (rw [decide_eq_true (by assumption)]; rfl) | (rw [decide_eq_false (by assumption)]; rfl)), rfl, trivial⟩ ⟨by omega, H⟩
          · skip
            refine s_val rfl (x_move (by conv => lhs; whnf)) ?_
            refine s_val rfl (x_move (by conv => lhs; whnf)) ?_
            refine s_val rfl (x_index (show SlT Tryd.prog 35 48 2 32 from ⟨by kernel_rfl, by kernel_rfl⟩) rfl rfl (by omega) (by omega) (FBs.rd H (i := 2) rfl).1) ?_
            refine s_val rfl (x_fieldR (off := 0) (by kernel_rfl) rfl (FBs.rd H (i := 2) rfl).1 (by omega)) ?_
            refine s_val rfl (x_loadR (by kernel_rfl) rfl (FBs.rd H (i := 2) rfl).1 (by rw [show ((k : Int)).toNat * 2 + 0 = k * 2 + 0 by omega]; exact hg0)) ?_
            refine s_val rfl (x_move (by conv => lhs; whnf)) ?_
            refine s_val rfl (x_eql rfl rfl) ?_
            refine s_val rfl (x_pick_false rfl (by conv => lhs; whnf)) ?_
            refine s_val rfl (x_assign (by conv => lhs; whnf)) ?_
            refine s_end ?_
            refine blockQ_n ?_
            refine thenQ_n ?_
            refine WP_region rfl ?_
            refine s_val rfl (x_move (by conv => lhs; whnf)) ?_
            refine s_val rfl (x_addi rfl rfl (by omega)) ?_
            refine s_val rfl (x_assign (by conv => lhs; whnf)) ?_
            refine s_end ?_
            refine loopQ_A (k + 1) (by omega) ⟨rfl, rfl, rfl, rfl, rfl, rfl, rfl, rfl, by first | (rw [hhs, (by assumption : hitB bks i k = true), Bool.true_or]; rfl) | (rw [hhs, (by assumption : hitB bks i k = false), Bool.false_or]; first | rfl | (rw [decide_eq_true (by assumption)]; rfl) | (rw [decide_eq_false (by assumption)]; rfl)), rfl, trivial⟩ ⟨by omega, H⟩
        · skip
          refine WP_exit ?_
          refine thenQ_e ?_
          refine loopQ_e ?_
          refine blockQ_hit ?_
          have hke : k = bks.length := by omega
          subst hke
          have him : i < m := by omega
          refine thenQ_n ?_
          refine WP_rd (fun w_ => Sat _ w_ _) (.float 0 (.float 1 (.float 2 (.float 3 (.float 4 (.float 5 (.float 6 (.float 7 (.float 8 (.float 9 (.float 10 (.float 11 (.float 12 (.float 13 (.float 14 (.float 15 (.float 16 (.fork [(17, .float 18 (.float 19 .done))])))))))))))))))))) (by kernel_rfl) (by kernel_rfl) H.drew ?_
          replace H := H.drew
          refine r_val rfl rfl (fun w hI => x_move (by conv => lhs; whnf)) ?_
          refine r_val rfl rfl (fun w hI => x_not rfl) ?_
          refine r_bool rfl rfl (fun w hI => x_move rfl) (fun h6 => ?_) (fun h6 => ?_)
          · have hno : hitB bks i bks.length = false := by simp_all
            have himg : (x.image.drop (i * 256)).take 256 = (cm.x.image.drop (i * 256)).take 256 := by
              obtain ⟨q1, q2⟩ := hitB_none hno him
              rw [image_at hb.aa.1.wf (by omega), image_at c2.1.wf (by omega), hb.aa.plain.2 i him q1, c2.plain.2 i him q1, psM_not _ q2]
            have hr1 := rd_256 (H.rd (i := 3) rfl) i (by omega)
            have hr2 := rd_256 (H.rd (i := 4) rfl) i (by omega)
            rw [himg] at hr1
            refine r_val rfl rfl (fun w hI => x_move (by conv => lhs; whnf)) ?_
            refine r_val rfl rfl (fun w hI => x_move (by conv => lhs; whnf)) ?_
            refine r_val rfl rfl (fun w hI => x_muli rfl rfl (by omega)) ?_
            refine r_val rfl rfl (fun w hI => x_move (by conv => lhs; whnf)) ?_
            refine r_val rfl rfl (fun w hI => x_addi rfl rfl (by omega)) ?_
            refine r_val rfl rfl (fun w hI => x_muli rfl rfl (by omega)) ?_
            refine r_val rfl rfl (fun w hI => x_slice256 i (show SlT Tryd.prog 44 5 1 1 from ⟨by kernel_rfl, by kernel_rfl⟩) rfl rfl rfl (by omega) (by omega) (by omega) (H.rd (i := 3) rfl).2.1) ?_
            refine r_val rfl rfl (fun w hI => x_move (by conv => lhs; whnf)) ?_
            refine r_val rfl rfl (fun w hI => x_move (by conv => lhs; whnf)) ?_
            refine r_val rfl rfl (fun w hI => x_muli rfl rfl (by omega)) ?_
            refine r_val rfl rfl (fun w hI => x_move (by conv => lhs; whnf)) ?_
            refine r_val rfl rfl (fun w hI => x_addi rfl rfl (by omega)) ?_
            refine r_val rfl rfl (fun w hI => x_muli rfl rfl (by omega)) ?_
            refine r_val rfl rfl (fun w hI => x_slice256 i (show SlT Tryd.prog 44 5 1 1 from ⟨by kernel_rfl, by kernel_rfl⟩) rfl rfl rfl (by omega) (by omega) (by omega) (H.rd (i := 4) rfl).2.1) ?_
            refine r_one rfl ?_
            refine s_call rfl (by kernel_rfl) (SameBytes_same hr1 hr2 (by decide)) rfl rfl ?_
            rintro _ _ ⟨rfl, e_⟩
            replace H := H.heapEq e_
            clear e_
            refine s_end ?_
            refine ⟨H, ?_⟩
            refine r_val rfl rfl (fun w hI => x_not rfl) ?_
            refine r_val rfl rfl (fun w hI => x_pick_true rfl (by conv => lhs; whnf)) ?_
            refine r_done ?_
            refine WP_cond_false rfl ?_
            refine WP_skip ?_
            refine blockQ_n ?_
            refine thenQ_n ?_
            refine WP_region rfl ?_
            refine s_val rfl (x_move (by conv => lhs; whnf)) ?_
            refine s_val rfl (x_addi rfl rfl (by omega)) ?_
            refine s_val rfl (x_assign (by conv => lhs; whnf)) ?_
            refine s_end ?_
            refine loopQ_A (i + 1) (by omega) ⟨rfl, rfl, rfl, rfl, rfl, rfl, rfl, rfl, trivial⟩ ⟨by omega, H⟩
          · skip
            refine r_out rfl rfl ?_
            refine r_out rfl rfl ?_
            refine r_out rfl rfl ?_
            refine r_out rfl rfl ?_
            refine r_out rfl rfl ?_
            refine r_out rfl rfl ?_
            refine r_out rfl rfl ?_
            refine r_out rfl rfl ?_
            refine r_out rfl rfl ?_
            refine r_out rfl rfl ?_
            refine r_out rfl rfl ?_
            refine r_out rfl rfl ?_
            refine r_out rfl rfl ?_
            refine r_out rfl rfl ?_
            refine r_one rfl ?_
            refine s_out rfl ?_
            refine s_end ?_
            refine ⟨H, ?_⟩
            refine r_out rfl rfl ?_
            refine r_val rfl rfl (fun w hI => x_pick_false rfl (by conv => lhs; whnf)) ?_
            refine r_done ?_
            refine WP_cond_false rfl ?_
            refine WP_skip ?_
            refine blockQ_n ?_
            refine thenQ_n ?_
            refine WP_region rfl ?_
            refine s_val rfl (x_move (by conv => lhs; whnf)) ?_
            refine s_val rfl (x_addi rfl rfl (by omega)) ?_
            refine s_val rfl (x_assign (by conv => lhs; whnf)) ?_
            refine s_end ?_
            refine loopQ_A (i + 1) (by omega) ⟨rfl, rfl, rfl, rfl, rfl, rfl, rfl, rfl, trivial⟩ ⟨by omega, H⟩
    · skip
      refine WP_exit ?_
      refine thenQ_e ?_
      refine loopQ_e ?_
      refine blockQ_hit ?_
      refine thenQ_n ?_
      refine WP_r rfl ?_
      refine s_val rfl (x_move (by conv => lhs; whnf)) ?_
      refine s_call rfl (by kernel_rfl) (Ops_calls (H.hd (i := 0) rfl)) rfl rfl ?_
      rintro v2 w2 ⟨rfl, e2⟩
      replace H := H.heapEq e2
      clear e2
      rw [c4.taken, show (if bkP bks = [] then (m : Int) - 5 else (m : Int) - 5 + 2 * (bkP bks).length + 6) = (m : Int) - 5 + q by rw [hq, bkP_len, hbl]; split <;> omega]
      refine s_val rfl (x_move (by conv => lhs; whnf)) ?_
      refine s_val rfl (x_move (by conv => lhs; whnf)) ?_
      refine s_val rfl (x_addi rfl rfl (by omega)) ?_
      refine s_val rfl (x_eql_yes rfl rfl) ?_
      refine s_val rfl (x_assign (by conv => lhs; whnf)) ?_
      refine s_end ?_
      refine WP_ret ?_
      refine retQ_1 rfl (by conv => lhs; whnf) ?_
      exact ⟨rfl, H.ext⟩
end Go.Sl
/- Plain law of a log: whenever the power goes. -/
namespace Go.Sl
open Go.Proofs

section
variable {at_ cap n t : Nat} {M : Nat → Sect} {ps : Ps} {x x' : D} {done : Bool}
structure Good (at_ cap n : Nat) (M : Nat → Sect) (t : Nat) (ps : Ps) (done : Bool) (x : D) : Prop where
  mid : Mid at_ cap n M t (psSort ps) x
  if_done : done = true → AA at_ cap n (psM (psSort ps) M) x
structure End (at_ cap n : Nat) (M : Nat → Sect) (ps : Ps) (done : Bool) (x : D) : Prop where
  one : AA at_ cap n M x ∨ AA at_ cap n (psM (psSort ps) M) x
  if_done : done = true → AA at_ cap n (psM (psSort ps) M) x
theorem good_open (hp : PsIn at_ cap n ps) (h1 : 1 ≤ cap) (ht : t < 4294967296) (h : Good at_ cap n M t ps done x) (p : List Int) (hk : Kept (x.crash p) x') (ho : x'.off = false) :
    ((x'.openD at_ cap).1 = 0 ∧ End at_ cap n M ps done (x'.openD at_ cap).2) ∨ ((x'.openD at_ cap).1 = 10 ∧ Good at_ cap n M t ps done (x'.openD at_ cap).2) := by
  cases done with
  | true =>
    have g := ((h.if_done rfl).crash p).kept hk
    rw [g.openD h1 hp.cap hp.big ho]
    exact .inl ⟨rfl, .inr g, fun _ => g⟩
  | false =>
    rcases h.mid.openD hp.sort h1 ht p hk ho with ⟨a, b⟩ | ⟨a, b⟩
    · exact .inl ⟨a, b, fun q => by cases q⟩
    · exact .inr ⟨a, b, fun q => by cases q⟩
theorem good_free (hp : PsIn at_ cap n ps) (h1 : 1 ≤ cap) (ht : t < 4294967296) (h : Good at_ cap n M t ps done x) (p : List Int) :
    ((x.crash p).openD at_ cap).1 = 0 ∧ End at_ cap n M ps done ((x.crash p).openD at_ cap).2 ∧ ((x.crash p).openD at_ cap).2.off = false := by
  have hf := h.mid.openF hp.sort h1 ht p
  refine ⟨hf.1, ⟨hf.2.1, fun q => ?_⟩, hf.2.2.1.off⟩
  have g := (h.if_done q).crash p
  rw [g.openD h1 hp.cap hp.big (crash_free x p).off]
  exact g
/-- A log that was opened opens again; then the sectors are one or the other. -/
theorem end_again (hp : PsIn at_ cap n ps) (h1 : 1 ≤ cap) (h : End at_ cap n M ps done x) (p : List Int) : (x.crash p).openD at_ cap = (0, x.crash p) ∧ End at_ cap n M ps done (x.crash p) := by
  have hf := (crash_free x p).off
  have hE : End at_ cap n M ps done (x.crash p) := ⟨h.one.imp (fun g => g.crash p) (fun g => g.crash p), fun q => (h.if_done q).crash p⟩
  refine ⟨?_, hE⟩
  rcases hE.one with g | g
  · exact g.openD h1 hp.cap hp.big hf
  · exact g.openD h1 hp.cap hp.big hf
theorem end_all (hp : PsIn at_ cap n ps) (h : End at_ cap n M ps done x) (ho : x.off = false) {was : Ps} (hw : was = ps.map fun p => (p.1, M p.1.toNat)) : (allP x ps || (!done && allP x was)) = true := by
  cases done with
  | true => rw [allP_psM hp (h.if_done rfl) ho]; rfl
  | false =>
    rcases h.one with g | g
    · rw [hw, allP_M hp g ho]; simp
    · rw [allP_psM hp g ho]; rfl
theorem End.bs (h : End at_ cap n M ps done x) : Bs at_ cap n x := by rcases h.one with g | g <;> exact g.1
theorem Good.bs (h : Good at_ cap n M t ps done x) : Bs at_ cap n x := h.mid.bs
end
theorem FBs.all {w0 w : World} {a : Option Addr} {n cap : Nat} {l : List Bk} {L : List HP} (H : Sat w0 w (slo 48 2 a n cap (bkCells l) :: stars (l.map bkOwn) :: L)) : Sat w0 w (FBs a n cap l :: L) := by
  have H1 : Sat w0 w ([slo 48 2 a n cap (bkCells l), stars (l.map bkOwn)] ++ L) := H
  exact H1.part
theorem cutCells_len (l : List CutV) : (cutCells l).length = l.length * 2 := by
  induction l with
  | nil => rfl
  | cons b l ih => unfold cutCells at ih ⊢; rw [List.flatMap_cons, List.length_append, ih, List.length_cons]; show 2 + l.length * 2 = _; omega
theorem cutCells_get : ∀ (l : List CutV) (k : Nat) (b : CutV) (j : Nat), l[k]? = some b → j < 2 → (cutCells l)[k * 2 + j]? = b.cells[j]? := by
  intro l
  induction l with
  | nil => intro k b j h; simp at h
  | cons c l ih =>
    intro k b j h hj
    have e : cutCells (c :: l) = c.cells ++ cutCells l := rfl
    rw [e]
    cases k with
    | zero =>
      simp at h; subst h
      rw [Nat.zero_mul, Nat.zero_add, List.getElem?_append_left (by show j < 2; exact hj)]
    | succ k =>
      rw [List.getElem?_append_right (by show 2 ≤ _; omega), show (k + 1) * 2 + j - c.cells.length = k * 2 + j by show (k + 1) * 2 + j - 2 = _; omega]
      exact ih k b j (by simpa using h) hj
end Go.Sl
/- WalWhole, walked. -/
namespace Go.Sl
open Go.Proofs

theorem rd_none (w : World) (sz : Nat) : Rd w none 0 0 sz [] := ⟨by simp, Nat.le_refl _, fun h => absurd h (Nat.lt_irrefl 0)⟩
theorem WalWhole_calls {w : World} (hh : Half w) (s : Int) {ia : Option Addr} {n ic : Nat} {l : List Int} (HI : Rd w ia n ic 1 (l.map intF)) (hn : n ≤ 4611686018427387904) (c : UInt8)
    {ca : Option Addr} {cn cc : Nat} {cs : List CutV} (HC : Rd w ca cn cc 2 (cutCells cs)) (hm : cn ≤ 9223372036854775807) (hcf : ∀ b ∈ cs, CutFit w b) :
    Calls Tryd.prog 4 #[.int .i64 s, .slice ia n ic, by1 c, .slice ca cn cc] w (Ret fun v w' => v = .bool true ∧ Ext w w') := by
  have H := Sat.nil (Ext.refl w)
  have hab := among_bounds s 20 (by decide)
  have hcl : cs.length = cn := by have := HC.1; rw [cutCells_len] at this; omega
  have hccl := cutCells_len cs
  refine calls_of Tryd.func4 rfl rfl ?_
  refine WP_r rfl ?_
  refine s_val rfl (x_assign (by conv => lhs; whnf)) ?_
  refine s_end ?_
  refine WP_seq ?_
  refine WP_r rfl ?_
  refine s_call rfl (by kernel_rfl) (works_calls (hh.ext H.ext)) rfl rfl ?_
  rintro _ _ ⟨rfl, e_⟩
  replace H := H.more (Sat.nil e_)
  clear e_
  simp only [List.append_nil] at H
  refine s_val rfl (x_not rfl) ?_
  refine s_end ?_
  refine WP_cond_false rfl ?_
  refine WP_skip ?_
  refine thenQ_n ?_
  refine WP_r rfl ?_
  refine s_val rfl (x_move (by conv => lhs; whnf)) ?_
  refine s_call rfl (by kernel_rfl) (Among_calls s 20 (by decide) (by decide)) rfl rfl ?_
  rintro _ w_ ⟨rfl, e_⟩; replace e_ := e_.symm; subst e_
  refine s_val rfl (x_addi rfl rfl (by omega)) ?_
  obtain ⟨m, hm2⟩ : ∃ m : Nat, 9 + among s 20 = (m : Int) := ⟨(9 + among s 20).toNat, by omega⟩
  rw [hm2]
  have hm9 : 9 ≤ m ∧ m ≤ 28 := by omega
  refine s_val rfl (x_assign (by conv => lhs; whnf)) ?_
  refine s_end ?_
  refine WP_r rfl ?_
  refine s_val rfl (x_move (by conv => lhs; whnf)) ?_
  refine s_call rfl (by kernel_rfl) (begun_calls (hh.ext H.ext) m (by omega) (by omega)) rfl rfl ?_
  rintro _ _ ⟨d, v, x, rfl, hb, H4⟩
  replace H := H.more H4
  clear H4
  rw [Int.toNat_natCast] at hb
  simp only [List.nil_append] at H
  have hxl := hb.aa.1.len
  refine s_val rfl (x_move (by conv => lhs; whnf)) ?_
  refine s_val rfl (x_extract rfl rfl) ?_
  refine s_val rfl (x_extract rfl rfl) ?_
  refine s_val rfl (x_assign (by conv => lhs; whnf)) ?_
  refine s_val rfl (x_assign (by conv => lhs; whnf)) ?_
  refine s_end ?_
  refine WP_seq ?_
  refine WP_r rfl ?_
  refine s_val rfl (x_move (by conv => lhs; whnf)) ?_
  refine s_val rfl (x_eqlPtrNil (by kernel_rfl) rfl) ?_
  refine s_end ?_
  refine WP_cond_false rfl ?_
  refine WP_skip ?_
  refine thenQ_n ?_
  refine WP_r rfl ?_
  refine s_val rfl (x_move (by conv => lhs; whnf)) ?_
  refine s_val rfl (x_move (by conv => lhs; whnf)) ?_
  refine s_call rfl (by kernel_rfl) (ats_calls (HI.ext H.ext) hn m (by omega) (by omega)) rfl rfl ?_
  rintro _ _ ⟨oa, oc, out, rfl, hout, H4⟩
  replace H := H.more H4
  clear H4
  simp only [List.cons_append, List.nil_append] at H
  refine s_val rfl (x_move (by conv => lhs; whnf)) ?_
  refine s_call rfl (by kernel_rfl) (blocks_calls (l := out) (H.rd (i := 2) rfl) (by have := hout.cnt; omega) c) rfl rfl ?_
  rintro _ _ ⟨ba, bc, bks, rfl, hbk, H4⟩
  replace H := H.more H4
  clear H4
  simp only [List.cons_append, List.nil_append] at H
  have hbl : bks.length = out.length := by rw [← bkP_len, hbk, blkP_len]
  have hc5 := hout.cnt
  have hin : PsIn 2 5 m (bkP bks) := by rw [hbk]; exact blk_in rfl hout (by omega) c
  replace H := H.re 0 3 [0, 1, 3, 2] (by kernel_rfl)
  refine s_val rfl (x_assign (by conv => lhs; whnf)) ?_
  refine s_end ?_
  refine WP_r rfl ?_
  refine s_buildSliceE (vs := []) rfl (show SlT Tryd.prog 35 48 2 32 from ⟨by kernel_rfl, by kernel_rfl⟩) (show ∃ z, ZeroT Tryd.prog 48 z ∧ z.cells.size = 2 from ⟨_, (show ZeroT Tryd.prog 48 (.agg #[.int .i64 0, .slice none 0 0]) by unfold ZeroT; kernel_rfl), rfl⟩) rfl trivial rfl (by simp [Value.cells]) (by decide) H ?_
  clear H; intro b39 _ H
  simp only [List.cons_append, List.nil_append, List.flatMap_cons, List.flatMap_nil, Value.cells, List.append_nil] at H
  refine s_val rfl (x_assign (by conv => lhs; whnf)) ?_
  refine s_end ?_
  refine WP_seq ?_
  refine WP_r rfl ?_
  refine s_val rfl (x_assign (by conv => lhs; whnf)) ?_
  refine s_end ?_
  refine WP_block ?_
  have H2 := H.addEmps 1
  replace H := H2.re 0 5 [0, 1, 2, 3, 4] (by kernel_rfl)
  clear H2
  refine WP_loopA (α := Option Addr × Nat × List Bk) (fun p => [(3, .slice ca cn cc), (9, dp d), (10, pp v), (11, .slice ba out.length bc), (12, .slice p.1 p.2.2.length p.2.1), (13, .int .i64 p.2.2.length)])
    (fun p w' => p.2.2.length ≤ out.length ∧ bkP p.2.2 = ((bkP bks).map fun p => (p.1, M0 m p.1.toNat)).take p.2.2.length ∧ Sat w w' [DK d x, WALb v d 2 5 0 false, FBs ba out.length bc bks, slo 48 2 p.1 p.2.2.length p.2.1 (bkCells p.2.2), stars (p.2.2.map bkOwn)]) (fun p => out.length - p.2.2.length) (_, 0, []) ⟨rfl, rfl, rfl, rfl, rfl, rfl, trivial⟩ ⟨Nat.zero_le _, rfl, H⟩ ?_
  clear H
  rintro ⟨sa, sc, wl⟩ ρ w5 ⟨hk, hwl, H⟩
  dsimp only at hk hwl H ⊢
  refine WP_seq ?_
  refine WP_r rfl ?_
  refine s_val rfl (x_move (by conv => lhs; whnf)) ?_
  refine s_val rfl (x_move (by conv => lhs; whnf)) ?_
  refine s_val rfl (x_lenS (by kernel_rfl) rfl) ?_
  refine s_val rfl (x_lss rfl rfl) ?_
  refine s_end ?_
  refine WP_cond_dec rfl (fun h1 => ?_) (fun h1 => ?_)
  · skip
    refine WP_skip ?_
    refine thenQ_n ?_
    refine WP_seq ?_
    refine WP_block ?_
    obtain ⟨b, hbk2⟩ : ∃ b, bks[wl.length]? = some b := ⟨_, List.getElem?_eq_getElem (by omega)⟩
    have hg0 := bkCells_get bks wl.length b 0 hbk2 (by decide)
    have hbcl := bkCells_len bks
    have hbp : (bkP bks)[wl.length]? = some (b.at_, b.bs) := by unfold bkP; rw [List.getElem?_map, hbk2]; rfl
    have hbe := hin.each _ (List.mem_of_getElem? hbp)
    dsimp only at hbe
    have hrd : x.read b.at_ = (0, M0 m b.at_.toNat) := by rw [read_at hb.un.off (by omega) (by omega), hb.aa.plain.2 b.at_.toNat (by omega) (.inr (by omega))]
    have hml : (M0 m b.at_.toNat).length = 256 := by unfold M0; split; exact fullS_len _; exact zsect_len
    refine WP_r rfl ?_
    refine s_val rfl (x_move (by conv => lhs; whnf)) ?_
    refine s_val rfl (x_move (by conv => lhs; whnf)) ?_
    refine s_val rfl (x_move (by conv => lhs; whnf)) ?_
    refine s_val rfl (x_index (show SlT Tryd.prog 35 48 2 32 from ⟨by kernel_rfl, by kernel_rfl⟩) rfl rfl (by omega) (by omega) (FBs.rd H (i := 2) rfl).1) ?_
    refine s_val rfl (x_fieldR (off := 0) (by kernel_rfl) rfl (FBs.rd H (i := 2) rfl).1 (by omega)) ?_
    refine s_val rfl (x_loadR (by kernel_rfl) rfl (FBs.rd H (i := 2) rfl).1 (by rw [show ((wl.length : Int)).toNat * 2 + 0 = wl.length * 2 + 0 by omega]; exact hg0)) ?_
    refine s_call rfl (by kernel_rfl) (Read_calls (H.hd (i := 0) rfl) b.at_) rfl rfl ?_
    rintro _ _ ⟨ra, rn, rc, rfl, H4⟩
    replace H := H.more H4
    clear H4
    simp only [List.cons_append, List.nil_append] at H
    rw [hrd] at H ⊢
    obtain rfl : rn = 256 := by have := (H.rd (i := 5) rfl).1; rw [bys_length, hml] at this; omega
    refine s_val rfl (x_move (by conv => lhs; whnf)) ?_
    refine s_val rfl (x_extract rfl rfl) ?_
    refine s_val rfl (x_extract rfl rfl) ?_
    refine s_val rfl (x_assign (by conv => lhs; whnf)) ?_
    refine s_val rfl (x_assign (by conv => lhs; whnf)) ?_
    refine s_end ?_
    refine WP_region rfl ?_
    refine s_val rfl (x_move (by conv => lhs; whnf)) ?_
    refine s_val rfl (x_move (by conv => lhs; whnf)) ?_
    refine s_val rfl (x_move (by conv => lhs; whnf)) ?_
    refine s_val rfl (x_index (show SlT Tryd.prog 35 48 2 32 from ⟨by kernel_rfl, by kernel_rfl⟩) rfl rfl (by omega) (by omega) (FBs.rd H (i := 2) rfl).1) ?_
    refine s_val rfl (x_fieldR (off := 0) (by kernel_rfl) rfl (FBs.rd H (i := 2) rfl).1 (by omega)) ?_
    refine s_val rfl (x_loadR (by kernel_rfl) rfl (FBs.rd H (i := 2) rfl).1 (by rw [show ((wl.length : Int)).toNat * 2 + 0 = wl.length * 2 + 0 by omega]; exact hg0)) ?_
    refine s_val rfl (x_move (by conv => lhs; whnf)) ?_
    refine s_val rfl (x_buildE (vs := [_, _]) (show StT Tryd.prog 48 #[.int .i64 0, .slice none 0 0] #[(0, 1), (1, 1)] from ⟨by kernel_rfl, by kernel_rfl⟩) ⟨(by conv => lhs; whnf), (by conv => lhs; whnf), trivial⟩ (show _ = some [_, _] from rfl)) ?_
    refine s_buildSliceE (vs := [_]) rfl (show SlT Tryd.prog 35 48 2 32 from ⟨by kernel_rfl, by kernel_rfl⟩) (show ∃ z, ZeroT Tryd.prog 48 z ∧ z.cells.size = 2 from ⟨_, (show ZeroT Tryd.prog 48 (.agg #[.int .i64 0, .slice none 0 0]) by unfold ZeroT; kernel_rfl), rfl⟩) rfl ⟨(by conv => lhs; whnf), trivial⟩ rfl (by simp [Value.cells]) (by decide) H ?_
    clear H; intro b64 _ H
    simp only [List.cons_append, List.nil_append, List.flatMap_cons, List.flatMap_nil, Value.cells, List.append_nil] at H
    refine s_append rfl (show SlT Tryd.prog 35 48 2 32 from ⟨by kernel_rfl, by kernel_rfl⟩) (show ∃ z, ZeroT Tryd.prog 48 z ∧ z.cells.size = 2 from ⟨_, (show ZeroT Tryd.prog 48 (.agg #[.int .i64 0, .slice none 0 0]) by unfold ZeroT; kernel_rfl), rfl⟩) ⟨_, (show SlT Tryd.prog 35 48 2 32 from ⟨by kernel_rfl, by kernel_rfl⟩).und⟩ rfl rfl H (i := 3) rfl (H.rd (i := 6) rfl) (by first | exact bys_oneCell _ | (intro u hu; simp at hu; rcases hu with rfl | rfl | rfl | rfl <;> rfl) | (intro u hu; simp at hu; subst hu; rfl) | (intro u hu; obtain ⟨_, _, rfl⟩ := List.mem_map.1 hu; rfl)) (by omega) (by omega) ?_
    clear H; intro a65 c65 _ H
    simp only [List.set_cons_zero, List.set_cons_succ] at H
    refine s_val rfl (x_assign (by conv => lhs; whnf)) ?_
    refine s_end ?_
    refine blockQ_n ?_
    refine thenQ_n ?_
    refine WP_region rfl ?_
    refine s_val rfl (x_move (by conv => lhs; whnf)) ?_
    refine s_val rfl (x_addi rfl rfl (by omega)) ?_
    refine s_val rfl (x_assign (by conv => lhs; whnf)) ?_
    refine s_end ?_
    obtain ⟨b1, hb1⟩ : ∃ b1 : Bk, b1 = ⟨b.at_, ra, 256, rc, M0 m b.at_.toNat⟩ := ⟨_, rfl⟩
    have hlen : (wl ++ [b1]).length = wl.length + 1 := by rw [List.length_append, List.length_singleton]
    refine loopQ_A (a65, c65, wl ++ [b1]) (by show out.length - (wl ++ [b1]).length < out.length - wl.length; omega) ⟨rfl, rfl, rfl, rfl, by show _ = Value.slice a65 (wl ++ [b1]).length c65; rw [hlen]; rfl, by show _ = Value.int .i64 ((wl ++ [b1]).length : Nat); rw [hlen]; rfl, trivial⟩ ⟨by show (wl ++ [b1]).length ≤ out.length; omega, ?_, ?_⟩
    · show bkP (wl ++ [b1]) = ((bkP bks).map fun p => (p.1, M0 m p.1.toNat)).take (wl ++ [b1]).length
      rw [hlen, List.take_add_one, List.getElem?_map, hbp, Option.map_some, Option.toList_some, ← hwl, hb1]
      unfold bkP
      rw [List.map_append]; rfl
    · have H3 := Sat.absorb (L := [_, _, _, _, stars (wl.map bkOwn)]) (i := 4) (p := slo 5 1 ra 256 rc (bys (M0 m b.at_.toNat))) (H.re 0 6 [0, 1, 2, 3, 4, 5, 6] (by kernel_rfl)) rfl
      show Sat w _ [_, _, _, slo 48 2 a65 (wl ++ [b1]).length c65 (bkCells (wl ++ [b1])), stars ((wl ++ [b1]).map bkOwn)]
      have e1 : bkCells (wl ++ [b1]) = bkCells wl ++ b1.cells := by unfold bkCells; rw [List.flatMap_append, List.flatMap_cons, List.flatMap_nil, List.append_nil]
      rw [hlen, List.map_append, e1, hb1]
      exact H3
  · skip
    refine WP_exit ?_
    refine thenQ_e ?_
    refine loopQ_e ?_
    refine blockQ_hit ?_
    have hke : wl.length = out.length := by omega
    rw [hke] at H hwl ⊢
    rw [List.take_of_length_le (by rw [List.length_map, bkP_len]; omega)] at hwl
    have H2 := FBs.all (H.re 0 5 [3, 4, 0, 1, 2] (by kernel_rfl))
    replace H := H2.re 0 4 [1, 2, 3, 0] (by kernel_rfl)
    clear H2
    refine thenQ_n ?_
    refine WP_meetA (α := D) (fun _ => [(3, .slice ca cn cc), (9, dp d), (10, pp v), (11, .slice ba out.length bc), (12, .slice sa out.length sc)]) (fun p w' => Kept x p ∧ Sat w w' [DK d p, WALb v d 2 5 0 false, FBs ba out.length bc bks, FBs sa out.length sc wl]) ?_ ?_
    · skip
      refine WP_r rfl ?_
      refine s_val rfl (x_move (by conv => lhs; whnf)) ?_
      refine s_val rfl (x_lenS (by kernel_rfl) rfl) ?_
      refine s_val rfl (x_gtr rfl rfl) ?_
      refine s_end ?_
      refine WP_cond_dec rfl (fun h2 => ?_) (fun h2 => ?_)
      · skip
        obtain ⟨b0, hb0⟩ : ∃ b, cs[0]? = some b := ⟨_, List.getElem?_eq_getElem (by omega)⟩
        have hg0 := cutCells_get cs 0 b0 0 hb0 (by decide)
        have hab0 := among_bounds b0.n 24 (by decide)
        refine WP_region rfl ?_
        refine s_val rfl (x_move (by conv => lhs; whnf)) ?_
        refine s_val rfl (x_move (by conv => lhs; whnf)) ?_
        refine s_val rfl (x_index (show SlT Tryd.prog 39 51 2 32 from ⟨by kernel_rfl, by kernel_rfl⟩) rfl rfl (by omega) (by omega) (HC.ext H.ext)) ?_
        refine s_val rfl (x_fieldR (off := 0) (by kernel_rfl) rfl (HC.ext H.ext) (by omega)) ?_
        refine s_val rfl (x_loadR (by kernel_rfl) rfl (HC.ext H.ext) hg0) ?_
        refine s_call rfl (by kernel_rfl) (Among_calls b0.n 24 (by decide) (by decide)) rfl rfl ?_
        rintro _ w_ ⟨rfl, e_⟩; replace e_ := e_.symm; subst e_
        refine s_call rfl (by kernel_rfl) (dLimit H (i := 0) rfl (among b0.n 24) (by omega)) rfl rfl ?_
        clear H
        rintro _ _ ⟨rfl, H⟩
        simp only [List.set_cons_zero, List.set_cons_succ] at H
        refine s_end ?_
        exact thenQ_meet _ ⟨rfl, rfl, rfl, rfl, rfl, trivial⟩ ⟨by first | exact limit_kept x _ | exact ⟨rfl⟩, H⟩
      · skip
        refine WP_skip ?_
        exact thenQ_meet _ ⟨rfl, rfl, rfl, rfl, rfl, trivial⟩ ⟨by first | exact limit_kept x _ | exact ⟨rfl⟩, H⟩
    · skip
      clear H
      rintro x1 ρ w8 ⟨hkx, H⟩
      have hA := hb.aa.kept hkx
      have hs := hb.set.kept hkx
      replace H : Sat w w8 ([DK d x1, WALb v d 2 5 0 false] ++ [FBs ba out.length bc bks, FBs sa out.length sc wl]) := H
      replace H := H.tail
      refine WP_r rfl ?_
      refine s_val rfl (x_move (by conv => lhs; whnf)) ?_
      refine s_val rfl (x_move (by conv => lhs; whnf)) ?_
      refine s_call rfl (by kernel_rfl) (Commit_calls (t := 0) H (hh) (by decide) (by decide) (by decide) (fun w0 w' H' => FBs.rd H'.unall (i := 0) rfl) (by omega) (by decide) (hs.small hA.1.len) (by decide)) rfl rfl ?_
      clear H
      rintro _ _ ⟨rfl, H⟩
      replace H : Sat w _ ([_, _] ++ [_, _]) := Sat.untail H
      simp only [List.cons_append, List.nil_append] at H
      obtain ⟨cm, hcm⟩ : ∃ cm, commitP x1 0 2 5 false (bkP bks) = cm := ⟨_, rfl⟩
      have hgood : Good 2 5 m (M0 m) (turnUp 0) (bkP bks) (decide (cm.e = 0)) cm.x := by
        rcases commit_mid (at_ := 2) (cap := 5) hin hA 0 with ⟨h1, h2⟩ | ⟨h1, h2⟩
        · have h2' : AA 2 5 m (psM (psSort (bkP bks)) (M0 m)) cm.x := by rw [← hcm]; exact h2
          exact ⟨h2'.mid5, fun _ => h2'⟩
        · have h1' : cm.e ≠ 0 := by rw [← hcm]; exact h1
          have h2' : Mid 2 5 m (M0 m) (turnUp 0) (psSort (bkP bks)) cm.x := by rw [← hcm]; exact h2
          exact ⟨h2', fun q => absurd (of_decide_eq_true q) h1'⟩
      rw [hcm] at H ⊢
      refine s_val rfl (x_eql rfl rfl) ?_
      refine s_val rfl (x_assign (by conv => lhs; whnf)) ?_
      refine s_end ?_
      refine WP_seq ?_
      refine WP_r rfl ?_
      refine s_val rfl (x_assign (by conv => lhs; whnf)) ?_
      refine s_end ?_
      refine WP_block ?_
      obtain ⟨done, hdone⟩ : ∃ done, decide (cm.e = 0) = done := ⟨_, rfl⟩
      rw [hdone] at hgood
      refine WP_loopA (α := Nat × D) (fun p => [(3, .slice ca cn cc), (9, dp d), (11, .slice ba out.length bc), (12, .slice sa out.length sc), (16, .bool done), (17, .int .i64 p.1)])
        (fun p w' => p.1 ≤ cn ∧ p.1 ≤ 8 ∧ Good 2 5 m (M0 m) (turnUp 0) (bkP bks) done p.2 ∧ Sat w w' [DK d p.2, FBs ba out.length bc bks, FBs sa out.length sc wl]) (fun p => 8 - p.1) (0, cm.x) ⟨rfl, rfl, rfl, rfl, by rw [← hdone]; rfl, rfl, trivial⟩ ⟨Nat.zero_le _, Nat.zero_le _, hgood, H.re 0 3 [0, 2, 3, 1] (by kernel_rfl)⟩ ?_
      clear H hgood hcm
      rintro ⟨i, y⟩ ρ w10 ⟨hi, hi8, hg, H⟩
      dsimp only at hi hi8 hg H ⊢
      refine WP_seq ?_
      refine WP_r rfl ?_
      refine s_val rfl (x_move (by conv => lhs; whnf)) ?_
      refine s_val rfl (x_move (by conv => lhs; whnf)) ?_
      refine s_val rfl (x_lenS (by kernel_rfl) rfl) ?_
      refine s_val rfl (x_lss rfl rfl) ?_
      refine s_dec rfl (x_move rfl) (fun h3 => ?_) (fun h3 => ?_)
      · skip
        refine s_val rfl (x_move (by conv => lhs; whnf)) ?_
        refine s_val rfl (x_lss rfl rfl) ?_
        refine s_val rfl (x_pick_true rfl (by conv => lhs; whnf)) ?_
        refine s_end ?_
        refine WP_cond_dec rfl (fun h4 => ?_) (fun h4 => ?_)
        · skip
          refine WP_skip ?_
          refine thenQ_n ?_
          refine WP_seq ?_
          refine WP_block ?_
          obtain ⟨bi, hbi⟩ : ∃ b, cs[i]? = some b := ⟨_, List.getElem?_eq_getElem (by omega)⟩
          have hgi := cutCells_get cs i bi 1 hbi (by decide)
          have hfi := hcf bi (List.mem_of_getElem? hbi)
          refine WP_r rfl ?_
          refine s_val rfl (x_move (by conv => lhs; whnf)) ?_
          refine s_val rfl (x_move (by conv => lhs; whnf)) ?_
          refine s_val rfl (x_move (by conv => lhs; whnf)) ?_
          refine s_val rfl (x_index (show SlT Tryd.prog 39 51 2 32 from ⟨by kernel_rfl, by kernel_rfl⟩) rfl rfl (by omega) (by omega) (HC.ext H.ext)) ?_
          refine s_val rfl (x_fieldR (off := 1) (by kernel_rfl) rfl (HC.ext H.ext) (by omega)) ?_
          refine s_val rfl (x_loadR (by kernel_rfl) rfl (HC.ext H.ext) (by rw [show ((i : Int)).toNat * 2 + 1 = i * 2 + 1 by omega]; exact hgi)) ?_
          refine s_call rfl (by kernel_rfl) (dCrash H (i := 0) rfl (picks := bi.picks) (fun w' H' => Rd.ext hfi H'.ext)) rfl rfl ?_
          clear H
          rintro _ _ ⟨rfl, H⟩
          simp only [List.set_cons_zero, List.set_cons_succ] at H
          refine s_end ?_
          refine WP_meetA (α := D) (fun _ => [(3, .slice ca cn cc), (9, dp d), (11, .slice ba out.length bc), (12, .slice sa out.length sc), (16, .bool done), (17, .int .i64 i)]) (fun p w' => Kept (y.crash bi.picks) p ∧ p.off = false ∧ Sat w w' [DK d p, FBs ba out.length bc bks, FBs sa out.length sc wl]) ?_ ?_
          · skip
            refine WP_r rfl ?_
            refine s_val rfl (x_move (by conv => lhs; whnf)) ?_
            refine s_val rfl (x_addi rfl rfl (by omega)) ?_
            refine s_val rfl (x_move (by conv => lhs; whnf)) ?_
            refine s_val rfl (x_lenS (by kernel_rfl) rfl) ?_
            refine s_val rfl (x_lss rfl rfl) ?_
            refine s_dec rfl (x_move rfl) (fun h5 => ?_) (fun h5 => ?_)
            · skip
              refine s_val rfl (x_move (by conv => lhs; whnf)) ?_
              refine s_val rfl (x_lss rfl rfl) ?_
              refine s_val rfl (x_pick_true rfl (by conv => lhs; whnf)) ?_
              refine s_end ?_
              refine WP_cond_dec rfl (fun h6 => ?_) (fun h6 => ?_)
              · skip
                obtain ⟨bj, hbj⟩ : ∃ b, cs[i + 1]? = some b := ⟨_, List.getElem?_eq_getElem (by omega)⟩
                have hgj := cutCells_get cs (i + 1) bj 0 hbj (by decide)
                have habj := among_bounds bj.n 16 (by decide)
                refine WP_region rfl ?_
                refine s_val rfl (x_move (by conv => lhs; whnf)) ?_
                refine s_val rfl (x_move (by conv => lhs; whnf)) ?_
                refine s_val rfl (x_move (by conv => lhs; whnf)) ?_
                refine s_val rfl (x_addi rfl rfl (by omega)) ?_
                refine s_val rfl (x_index (show SlT Tryd.prog 39 51 2 32 from ⟨by kernel_rfl, by kernel_rfl⟩) rfl rfl (by omega) (by omega) (HC.ext H.ext)) ?_
                refine s_val rfl (x_fieldR (off := 0) (by kernel_rfl) rfl (HC.ext H.ext) (by omega)) ?_
                refine s_val rfl (x_loadR (by kernel_rfl) rfl (HC.ext H.ext) (by rw [show ((i : Int) + 1).toNat * 2 + 0 = (i + 1) * 2 + 0 by omega]; exact hgj)) ?_
                refine s_call rfl (by kernel_rfl) (Among_calls bj.n 16 (by decide) (by decide)) rfl rfl ?_
                rintro _ w_ ⟨rfl, e_⟩; replace e_ := e_.symm; subst e_
                refine s_call rfl (by kernel_rfl) (dLimit H (i := 0) rfl (among bj.n 16) (by omega)) rfl rfl ?_
                clear H
                rintro _ _ ⟨rfl, H⟩
                simp only [List.set_cons_zero, List.set_cons_succ] at H
                refine s_end ?_
                exact thenQ_meet _ ⟨rfl, rfl, rfl, rfl, rfl, rfl, trivial⟩ ⟨by first | exact limit_kept _ _ | exact ⟨rfl⟩, rfl, H⟩
              · skip
                refine WP_skip ?_
                exact thenQ_meet _ ⟨rfl, rfl, rfl, rfl, rfl, rfl, trivial⟩ ⟨by first | exact limit_kept _ _ | exact ⟨rfl⟩, rfl, H⟩
            · skip
              refine s_out rfl ?_
              refine s_out rfl ?_
              refine s_val rfl (x_pick_false rfl (by conv => lhs; whnf)) ?_
              refine s_end ?_
              refine WP_cond_false rfl ?_
              refine WP_skip ?_
              exact thenQ_meet _ ⟨rfl, rfl, rfl, rfl, rfl, rfl, trivial⟩ ⟨by first | exact limit_kept _ _ | exact ⟨rfl⟩, rfl, H⟩
          · skip
            clear H
            rintro z ρ w13 ⟨hkz, hzo, H⟩
            have hzs : SmallV 1 z.vals := by rw [hkz.vals]; exact crash_small1 hg.bs.wf _
            refine WP_r rfl ?_
            refine s_val rfl (x_move (by conv => lhs; whnf)) ?_
            refine s_call rfl (by kernel_rfl) (Open_calls H (i := 0) rfl hh 2 5 (Nat.le_refl 1) hzs (by decide)) rfl rfl ?_
            clear H
            rintro _ w23 ⟨p, rfl, hne, hv⟩
            rcases good_open (at_ := 2) (cap := 5) hin (by decide) (by decide) hg bi.picks hkz hzo with ⟨e1, hE⟩ | ⟨e1, hG⟩
            · replace e1 : (z.openD 2 5).1 = 0 := e1
              obtain ⟨v1, rfl, H⟩ := hv e1
              rw [e1]
              simp only [List.set_cons_zero, List.set_cons_succ, List.cons_append, List.nil_append] at H
              replace hE : End 2 5 m (M0 m) (bkP bks) done (z.openD 2 5).2 := hE
              generalize (z.openD 2 5).2 = y2 at H hE
              have hag : (y2.crash []).openD 2 5 = (0, y2.crash []) ∧ End 2 5 m (M0 m) (bkP bks) done (y2.crash []) := end_again (at_ := 2) (cap := 5) hin (by decide) hE []
              have hal := end_all hin hag.2 (crash_free y2 []).off hwl
              refine s_val rfl (x_move (by conv => lhs; whnf)) ?_
              refine s_val rfl (x_extract rfl rfl) ?_
              refine s_val rfl (x_extract rfl rfl) ?_
              refine s_val rfl (x_assign (by conv => lhs; whnf)) ?_
              refine s_val rfl (x_assign (by conv => lhs; whnf)) ?_
              refine s_end ?_
              refine WP_seq ?_
              refine WP_r rfl ?_
              refine s_val rfl (x_move (by conv => lhs; whnf)) ?_
              refine s_val rfl (x_eql rfl rfl) ?_
              refine s_val rfl (x_move (by conv => lhs; whnf)) ?_
              refine s_val rfl (x_move (by conv => lhs; whnf)) ?_
              refine s_val rfl (x_neqPtrNil (by kernel_rfl) rfl) ?_
              refine s_val rfl (x_pick_true rfl (by conv => lhs; whnf)) ?_
              refine s_end ?_
              refine WP_cond_true rfl ?_
              refine WP_r rfl ?_
              refine s_val rfl (x_move (by conv => lhs; whnf)) ?_
              refine s_call rfl (by kernel_rfl) (dCrash H (i := 0) rfl (picks := []) (fun w' H' => rd_none _ 1)) rfl rfl ?_
              clear H
              rintro _ _ ⟨rfl, H⟩
              simp only [List.set_cons_zero, List.set_cons_succ] at H
              refine s_end ?_
              refine WP_r rfl ?_
              refine s_val rfl (x_move (by conv => lhs; whnf)) ?_
              refine s_call rfl (by kernel_rfl) (Open_calls H (i := 0) rfl hh 2 5 (Nat.le_refl 1) (crash_small1 hE.bs.wf []) (by decide)) rfl rfl ?_
              clear H
              rw [hag.1]
              rintro _ _ ⟨p2, rfl, _, hv2⟩
              obtain ⟨v2, rfl, H⟩ := hv2 rfl
              simp only [List.set_cons_zero, List.set_cons_succ, List.cons_append, List.nil_append] at H
              refine s_val rfl (x_move (by conv => lhs; whnf)) ?_
              refine s_val rfl (x_extract rfl rfl) ?_
              refine s_val rfl (x_extract rfl rfl) ?_
              refine s_val rfl (x_assign (by conv => lhs; whnf)) ?_
              refine s_val rfl (x_assign (by conv => lhs; whnf)) ?_
              refine s_end ?_
              refine WP_seq ?_
              refine WP_r rfl ?_
              refine s_val rfl (x_move (by conv => lhs; whnf)) ?_
              refine s_val rfl (x_neq rfl rfl) ?_
              refine s_val rfl (x_move (by conv => lhs; whnf)) ?_
              refine s_val rfl (x_move (by conv => lhs; whnf)) ?_
              refine s_val rfl (x_eqlPtrNil (by kernel_rfl) rfl) ?_
              refine s_val rfl (x_pick_false rfl (by conv => lhs; whnf)) ?_
              refine s_end ?_
              refine WP_cond_false rfl ?_
              refine WP_skip ?_
              refine thenQ_n ?_
              refine WP_r rfl ?_
              refine s_val rfl (x_move (by conv => lhs; whnf)) ?_
              refine s_val rfl (x_move (by conv => lhs; whnf)) ?_
              refine s_call rfl (by kernel_rfl) (all_calls (H.hd (i := 0) rfl) (FBs.rd H (i := 1) rfl).1 (by omega) (FBs.rd H (i := 1) rfl).2) rfl rfl ?_
              rintro _ _ ⟨rfl, e_⟩
              replace H := H.more (Sat.nil e_)
              clear e_
              simp only [List.cons_append, List.nil_append] at H
              refine s_bool rfl (x_move rfl) (fun h7 => ?_) (fun h7 => ?_)
              · skip
                refine s_out rfl ?_
                refine s_out rfl ?_
                refine s_out rfl ?_
                refine s_out rfl ?_
                refine s_out rfl ?_
                refine s_out rfl ?_
                refine s_out rfl ?_
                refine s_val rfl (x_pick_true rfl (by conv => lhs; whnf)) ?_
                refine s_val rfl (x_assign (by conv => lhs; whnf)) ?_
                refine s_end ?_
                refine WP_ret ?_
                refine thenQ_r ?_
                refine blockQ_r ?_
                refine thenQ_r ?_
                refine loopQ_r ?_
                refine blockQ_r ?_
                refine thenQ_r ?_
                refine retQ_1 rfl (by conv => lhs; whnf) ?_
                refine ⟨?_, H.ext⟩
                first | rfl | (simp_all; done)
              · skip
                refine s_val rfl (x_move (by conv => lhs; whnf)) ?_
                refine s_val rfl (x_not rfl) ?_
                refine s_bool rfl (x_move rfl) (fun h8 => ?_) (fun h8 => ?_)
                · skip
                  refine s_val rfl (x_move (by conv => lhs; whnf)) ?_
                  refine s_val rfl (x_move (by conv => lhs; whnf)) ?_
                  refine s_call rfl (by kernel_rfl) (all_calls (H.hd (i := 0) rfl) (FBs.rd H (i := 2) rfl).1 (by omega) (FBs.rd H (i := 2) rfl).2) rfl rfl ?_
                  rintro _ _ ⟨rfl, e_⟩
                  replace H := H.more (Sat.nil e_)
                  clear e_
                  simp only [List.cons_append, List.nil_append] at H
                  refine s_val rfl (x_pick_true rfl (by conv => lhs; whnf)) ?_
                  refine s_val rfl (x_pick_false rfl (by conv => lhs; whnf)) ?_
                  refine s_val rfl (x_assign (by conv => lhs; whnf)) ?_
                  refine s_end ?_
                  refine WP_ret ?_
                  refine thenQ_r ?_
                  refine blockQ_r ?_
                  refine thenQ_r ?_
                  refine loopQ_r ?_
                  refine blockQ_r ?_
                  refine thenQ_r ?_
                  refine retQ_1 rfl (by conv => lhs; whnf) ?_
                  refine ⟨?_, H.ext⟩
                  first | rfl | (simp_all; done)
                · skip
                  refine s_out rfl ?_
                  refine s_out rfl ?_
                  refine s_out rfl ?_
                  refine s_val rfl (x_pick_false rfl (by conv => lhs; whnf)) ?_
                  refine s_val rfl (x_pick_false rfl (by conv => lhs; whnf)) ?_
                  refine s_val rfl (x_assign (by conv => lhs; whnf)) ?_
                  refine s_end ?_
                  refine WP_ret ?_
                  refine thenQ_r ?_
                  refine blockQ_r ?_
                  refine thenQ_r ?_
                  refine loopQ_r ?_
                  refine blockQ_r ?_
                  refine thenQ_r ?_
                  refine retQ_1 rfl (by conv => lhs; whnf) ?_
                  refine ⟨?_, H.ext⟩
                  first | rfl | (simp_all; done)
            · replace e1 : (z.openD 2 5).1 = 10 := e1
              obtain ⟨rfl, H⟩ := hne (by rw [e1]; decide)
              rw [e1]
              simp only [List.set_cons_zero, List.set_cons_succ] at H
              replace hG : Good 2 5 m (M0 m) (turnUp 0) (bkP bks) done (z.openD 2 5).2 := hG
              generalize (z.openD 2 5).2 = y2 at H hG
              refine s_val rfl (x_move (by conv => lhs; whnf)) ?_
              refine s_val rfl (x_extract rfl rfl) ?_
              refine s_val rfl (x_extract rfl rfl) ?_
              refine s_val rfl (x_assign (by conv => lhs; whnf)) ?_
              refine s_val rfl (x_assign (by conv => lhs; whnf)) ?_
              refine s_end ?_
              refine WP_seq ?_
              refine WP_r rfl ?_
              refine s_val rfl (x_move (by conv => lhs; whnf)) ?_
              refine s_val rfl (x_eql rfl rfl) ?_
              refine s_val rfl (x_move (by conv => lhs; whnf)) ?_
              refine s_out rfl ?_
              refine s_out rfl ?_
              refine s_val rfl (x_pick_false rfl (by conv => lhs; whnf)) ?_
              refine s_end ?_
              refine WP_cond_false rfl ?_
              refine WP_skip ?_
              refine thenQ_n ?_
              refine WP_r rfl ?_
              refine s_val rfl (x_move (by conv => lhs; whnf)) ?_
              refine s_val rfl (x_neq rfl rfl) ?_
              refine s_end ?_
              refine WP_cond_false rfl ?_
              refine WP_skip ?_
              refine blockQ_n ?_
              refine thenQ_n ?_
              refine WP_region rfl ?_
              refine s_val rfl (x_move (by conv => lhs; whnf)) ?_
              refine s_val rfl (x_addi rfl rfl (by omega)) ?_
              refine s_val rfl (x_assign (by conv => lhs; whnf)) ?_
              refine s_end ?_
              exact loopQ_A (i + 1, y2) (by show 8 - (i + 1) < 8 - i; omega) ⟨rfl, rfl, rfl, rfl, rfl, rfl, trivial⟩ ⟨by show i + 1 ≤ cn; omega, by show i + 1 ≤ 8; omega, hG, H⟩
        · skip
          refine WP_exit ?_
          refine thenQ_e ?_
          refine loopQ_e ?_
          refine blockQ_hit ?_
          refine thenQ_n ?_
          refine WP_r rfl ?_
          refine s_val rfl (x_move (by conv => lhs; whnf)) ?_
          refine s_call rfl (by kernel_rfl) (dCrash H (i := 0) rfl (picks := []) (fun w' H' => rd_none _ 1)) rfl rfl ?_
          clear H
          rintro _ _ ⟨rfl, H⟩
          simp only [List.set_cons_zero, List.set_cons_succ] at H
          have hfr : ((y.crash []).openD 2 5).1 = 0 ∧ End 2 5 m (M0 m) (bkP bks) done ((y.crash []).openD 2 5).2 ∧ ((y.crash []).openD 2 5).2.off = false := good_free (at_ := 2) (cap := 5) hin (by decide) (by decide) hg []
          refine s_end ?_
          refine WP_r rfl ?_
          refine s_val rfl (x_move (by conv => lhs; whnf)) ?_
          refine s_call rfl (by kernel_rfl) (Open_calls H (i := 0) rfl hh 2 5 (Nat.le_refl 1) (crash_small1 hg.bs.wf []) (by decide)) rfl rfl ?_
          clear H
          rintro _ _ ⟨p2, rfl, _, hv2⟩
          obtain ⟨v2, rfl, H⟩ := hv2 hfr.1
          simp only [List.set_cons_zero, List.set_cons_succ, List.cons_append, List.nil_append] at H
          obtain ⟨g1, g2, g3⟩ := hfr
          rw [g1]
          generalize ((y.crash []).openD 2 5).2 = y3 at H g2 g3
          have hal := end_all hin g2 g3 hwl
          refine s_val rfl (x_move (by conv => lhs; whnf)) ?_
          refine s_val rfl (x_extract rfl rfl) ?_
          refine s_val rfl (x_extract rfl rfl) ?_
          refine s_val rfl (x_assign (by conv => lhs; whnf)) ?_
          refine s_val rfl (x_assign (by conv => lhs; whnf)) ?_
          refine s_end ?_
          refine WP_r rfl ?_
          refine s_val rfl (x_move (by conv => lhs; whnf)) ?_
          refine s_val rfl (x_eql rfl rfl) ?_
          refine s_val rfl (x_move (by conv => lhs; whnf)) ?_
          refine s_val rfl (x_move (by conv => lhs; whnf)) ?_
          refine s_val rfl (x_neqPtrNil (by kernel_rfl) rfl) ?_
          refine s_val rfl (x_pick_true rfl (by conv => lhs; whnf)) ?_
          refine s_val rfl (x_move (by conv => lhs; whnf)) ?_
          refine s_val rfl (x_move (by conv => lhs; whnf)) ?_
          refine s_val rfl (x_move (by conv => lhs; whnf)) ?_
          refine s_call rfl (by kernel_rfl) (all_calls (H.hd (i := 0) rfl) (FBs.rd H (i := 1) rfl).1 (by omega) (FBs.rd H (i := 1) rfl).2) rfl rfl ?_
          rintro _ _ ⟨rfl, e_⟩
          replace H := H.more (Sat.nil e_)
          clear e_
          simp only [List.cons_append, List.nil_append] at H
          refine s_bool rfl (x_move rfl) (fun h9 => ?_) (fun h9 => ?_)
          · skip
            refine s_out rfl ?_
            refine s_out rfl ?_
            refine s_out rfl ?_
            refine s_out rfl ?_
            refine s_out rfl ?_
            refine s_out rfl ?_
            refine s_out rfl ?_
            refine s_val rfl (x_pick_true rfl (by conv => lhs; whnf)) ?_
            refine s_val rfl (x_pick_true rfl (by conv => lhs; whnf)) ?_
            refine s_val rfl (x_assign (by conv => lhs; whnf)) ?_
            refine s_end ?_
            refine WP_ret ?_
            refine retQ_1 rfl (by conv => lhs; whnf) ?_
            refine ⟨?_, H.ext⟩
            first | rfl | (simp_all; done)
          · skip
            refine s_val rfl (x_move (by conv => lhs; whnf)) ?_
            refine s_val rfl (x_not rfl) ?_
            refine s_bool rfl (x_move rfl) (fun h10 => ?_) (fun h10 => ?_)
            · skip
              refine s_val rfl (x_move (by conv => lhs; whnf)) ?_
              refine s_val rfl (x_move (by conv => lhs; whnf)) ?_
              refine s_call rfl (by kernel_rfl) (all_calls (H.hd (i := 0) rfl) (FBs.rd H (i := 2) rfl).1 (by omega) (FBs.rd H (i := 2) rfl).2) rfl rfl ?_
              rintro _ _ ⟨rfl, e_⟩
              replace H := H.more (Sat.nil e_)
              clear e_
              simp only [List.cons_append, List.nil_append] at H
              refine s_val rfl (x_pick_true rfl (by conv => lhs; whnf)) ?_
              refine s_val rfl (x_pick_false rfl (by conv => lhs; whnf)) ?_
              refine s_val rfl (x_pick_true rfl (by conv => lhs; whnf)) ?_
              refine s_val rfl (x_assign (by conv => lhs; whnf)) ?_
              refine s_end ?_
              refine WP_ret ?_
              refine retQ_1 rfl (by conv => lhs; whnf) ?_
              refine ⟨?_, H.ext⟩
              first | rfl | (simp_all; done)
            · skip
              refine s_out rfl ?_
              refine s_out rfl ?_
              refine s_out rfl ?_
              refine s_val rfl (x_pick_false rfl (by conv => lhs; whnf)) ?_
              refine s_val rfl (x_pick_false rfl (by conv => lhs; whnf)) ?_
              refine s_val rfl (x_pick_true rfl (by conv => lhs; whnf)) ?_
              refine s_val rfl (x_assign (by conv => lhs; whnf)) ?_
              refine s_end ?_
              refine WP_ret ?_
              refine retQ_1 rfl (by conv => lhs; whnf) ?_
              refine ⟨?_, H.ext⟩
              first | rfl | (simp_all; done)
      · skip
        refine s_out rfl ?_
        refine s_out rfl ?_
        refine s_val rfl (x_pick_false rfl (by conv => lhs; whnf)) ?_
        refine s_end ?_
        refine WP_cond_false rfl ?_
        refine WP_exit ?_
        refine thenQ_e ?_
        refine loopQ_e ?_
        refine blockQ_hit ?_
        refine thenQ_n ?_
        refine WP_r rfl ?_
        refine s_val rfl (x_move (by conv => lhs; whnf)) ?_
        refine s_call rfl (by kernel_rfl) (dCrash H (i := 0) rfl (picks := []) (fun w' H' => rd_none _ 1)) rfl rfl ?_
        clear H
        rintro _ _ ⟨rfl, H⟩
        simp only [List.set_cons_zero, List.set_cons_succ] at H
        have hfr : ((y.crash []).openD 2 5).1 = 0 ∧ End 2 5 m (M0 m) (bkP bks) done ((y.crash []).openD 2 5).2 ∧ ((y.crash []).openD 2 5).2.off = false := good_free (at_ := 2) (cap := 5) hin (by decide) (by decide) hg []
        refine s_end ?_
        refine WP_r rfl ?_
        refine s_val rfl (x_move (by conv => lhs; whnf)) ?_
        refine s_call rfl (by kernel_rfl) (Open_calls H (i := 0) rfl hh 2 5 (Nat.le_refl 1) (crash_small1 hg.bs.wf []) (by decide)) rfl rfl ?_
        clear H
        rintro _ _ ⟨p2, rfl, _, hv2⟩
        obtain ⟨v2, rfl, H⟩ := hv2 hfr.1
        simp only [List.set_cons_zero, List.set_cons_succ, List.cons_append, List.nil_append] at H
        obtain ⟨g1, g2, g3⟩ := hfr
        rw [g1]
        generalize ((y.crash []).openD 2 5).2 = y3 at H g2 g3
        have hal := end_all hin g2 g3 hwl
        refine s_val rfl (x_move (by conv => lhs; whnf)) ?_
        refine s_val rfl (x_extract rfl rfl) ?_
        refine s_val rfl (x_extract rfl rfl) ?_
        refine s_val rfl (x_assign (by conv => lhs; whnf)) ?_
        refine s_val rfl (x_assign (by conv => lhs; whnf)) ?_
        refine s_end ?_
        refine WP_r rfl ?_
        refine s_val rfl (x_move (by conv => lhs; whnf)) ?_
        refine s_val rfl (x_eql rfl rfl) ?_
        refine s_val rfl (x_move (by conv => lhs; whnf)) ?_
        refine s_val rfl (x_move (by conv => lhs; whnf)) ?_
        refine s_val rfl (x_neqPtrNil (by kernel_rfl) rfl) ?_
        refine s_val rfl (x_pick_true rfl (by conv => lhs; whnf)) ?_
        refine s_val rfl (x_move (by conv => lhs; whnf)) ?_
        refine s_val rfl (x_move (by conv => lhs; whnf)) ?_
        refine s_val rfl (x_move (by conv => lhs; whnf)) ?_
        refine s_call rfl (by kernel_rfl) (all_calls (H.hd (i := 0) rfl) (FBs.rd H (i := 1) rfl).1 (by omega) (FBs.rd H (i := 1) rfl).2) rfl rfl ?_
        rintro _ _ ⟨rfl, e_⟩
        replace H := H.more (Sat.nil e_)
        clear e_
        simp only [List.cons_append, List.nil_append] at H
        refine s_bool rfl (x_move rfl) (fun h11 => ?_) (fun h11 => ?_)
        · skip
          refine s_out rfl ?_
          refine s_out rfl ?_
          refine s_out rfl ?_
          refine s_out rfl ?_
          refine s_out rfl ?_
          refine s_out rfl ?_
          refine s_out rfl ?_
          refine s_val rfl (x_pick_true rfl (by conv => lhs; whnf)) ?_
          refine s_val rfl (x_pick_true rfl (by conv => lhs; whnf)) ?_
          refine s_val rfl (x_assign (by conv => lhs; whnf)) ?_
          refine s_end ?_
          refine WP_ret ?_
          refine retQ_1 rfl (by conv => lhs; whnf) ?_
          refine ⟨?_, H.ext⟩
          first | rfl | (simp_all; done)
        · skip
          refine s_val rfl (x_move (by conv => lhs; whnf)) ?_
          refine s_val rfl (x_not rfl) ?_
          refine s_bool rfl (x_move rfl) (fun h12 => ?_) (fun h12 => ?_)
          · skip
            refine s_val rfl (x_move (by conv => lhs; whnf)) ?_
            refine s_val rfl (x_move (by conv => lhs; whnf)) ?_
            refine s_call rfl (by kernel_rfl) (all_calls (H.hd (i := 0) rfl) (FBs.rd H (i := 2) rfl).1 (by omega) (FBs.rd H (i := 2) rfl).2) rfl rfl ?_
            rintro _ _ ⟨rfl, e_⟩
            replace H := H.more (Sat.nil e_)
            clear e_
            simp only [List.cons_append, List.nil_append] at H
            refine s_val rfl (x_pick_true rfl (by conv => lhs; whnf)) ?_
            refine s_val rfl (x_pick_false rfl (by conv => lhs; whnf)) ?_
            refine s_val rfl (x_pick_true rfl (by conv => lhs; whnf)) ?_
            refine s_val rfl (x_assign (by conv => lhs; whnf)) ?_
            refine s_end ?_
            refine WP_ret ?_
            refine retQ_1 rfl (by conv => lhs; whnf) ?_
            refine ⟨?_, H.ext⟩
            first | rfl | (simp_all; done)
          · skip
            refine s_out rfl ?_
            refine s_out rfl ?_
            refine s_out rfl ?_
            refine s_val rfl (x_pick_false rfl (by conv => lhs; whnf)) ?_
            refine s_val rfl (x_pick_false rfl (by conv => lhs; whnf)) ?_
            refine s_val rfl (x_pick_true rfl (by conv => lhs; whnf)) ?_
            refine s_val rfl (x_assign (by conv => lhs; whnf)) ?_
            refine s_end ?_
            refine WP_ret ?_
            refine retQ_1 rfl (by conv => lhs; whnf) ?_
            refine ⟨?_, H.ext⟩
            first | rfl | (simp_all; done)
end Go.Sl
/- WalNone, walked. -/
namespace Go.Sl
open Go.Proofs

theorem read_nil {w : World} (at_ cap : Int) : Calls Tryd.prog 28 #[.pointer none, .int .i64 at_, .int .i64 cap] w (Ret fun v w' => v = .tuple #[.agg (lcells 0 none 0 0 none 0 0).toArray, .int .i64 1] ∧ Ext w w') := by
  have H := Sat.nil (Ext.refl w)
  refine calls_of Tryd.func28 rfl rfl ?_
  refine WP_r rfl ?_
  refine s_box1 rfl (by conv => lhs; whnf) rfl H ?_
  clear H; intro b3 _ H
  simp only [List.cons_append, List.nil_append] at H
  refine s_box1 rfl (by conv => lhs; whnf) rfl H ?_
  clear H; intro b4 _ H
  simp only [List.cons_append, List.nil_append] at H
  refine s_box1 rfl (by conv => lhs; whnf) rfl H ?_
  clear H; intro b5 _ H
  simp only [List.cons_append, List.nil_append] at H
  refine s_allocA rfl (show ZeroT Tryd.prog 62 (.agg #[.int .i64 0, .slice none 0 0, .slice none 0 0]) by unfold ZeroT; kernel_rfl) H ?_
  clear H; intro b6 _ H
  simp only [List.cons_append, List.nil_append] at H
  refine s_val rfl (x_assign (by conv => lhs; whnf)) ?_
  refine s_end ?_
  refine WP_seq ?_
  refine WP_block ?_
  refine WP_r rfl ?_
  refine s_val rfl (x_load (by kernel_rfl) rfl (by first | assumption | exact H.cell (i := 0) rfl rfl | exact H.cell (i := 1) rfl rfl | exact H.cell (i := 2) rfl rfl | exact H.cell (i := 3) rfl rfl | exact H.cell (i := 4) rfl rfl | exact H.cell (i := 5) rfl rfl | exact H.cell (i := 6) rfl rfl | exact H.cell (i := 7) rfl rfl | exact H.cell (i := 8) rfl rfl | exact H.cell (i := 9) rfl rfl | exact H.cell (i := 10) rfl rfl | exact H.cell (i := 11) rfl rfl)) ?_
  refine s_call rfl (by kernel_rfl) (Sectors_no (.inl rfl)) rfl rfl ?_
  rintro _ _ ⟨rfl, e_⟩; replace H := H.heapEq e_; clear e_
  refine s_val rfl (x_eql rfl rfl) ?_
  refine s_val rfl (x_assign (by conv => lhs; whnf)) ?_
  refine s_end ?_
  refine WP_cond_true rfl ?_
  refine WP_r rfl ?_
  refine s_val rfl (x_buildE (vs := []) (show StT Tryd.prog 62 #[.int .i64 0, .slice none 0 0, .slice none 0 0] #[(0, 1), (1, 1), (2, 1)] from ⟨by kernel_rfl, by kernel_rfl⟩) trivial (show _ = some [_, _, _] from rfl)) ?_
  refine s_storeAll rfl (n := 3) (by kernel_rfl) rfl rfl rfl (by simp [Value.oneCell']) H (i := 3) rfl rfl ?_
  clear H; intro _ H
  simp only [List.set_cons_zero, List.set_cons_succ] at H
  refine s_val rfl (x_assign (by conv => lhs; whnf)) ?_
  refine s_end ?_
  refine WP_ret ?_
  refine blockQ_r ?_
  refine thenQ_r ?_
  refine retQ_c1t1 (n := 3) rfl (by conv => lhs; whnf) (by conv => lhs; whnf) (by kernel_rfl) rfl (fun j u hj => H.cellsAt (i := 3) rfl hj) ?_
  exact ⟨rfl, H.ext⟩
theorem Format_nil {w : World} (at_ cap : Int) : Calls Tryd.prog 10 #[.pointer none, .int .i64 at_, .int .i64 cap] w (Ret fun v w' => v = .int .i64 1 ∧ Ext w w') := by
  have H := Sat.nil (Ext.refl w)
  refine calls_of Tryd.func10 rfl rfl ?_
  refine WP_r rfl ?_
  refine s_val rfl (x_assign (by conv => lhs; whnf)) ?_
  refine s_end ?_
  refine WP_seq ?_
  refine WP_block ?_
  refine WP_r rfl ?_
  refine s_val rfl (x_move (by conv => lhs; whnf)) ?_
  refine s_call rfl (by kernel_rfl) (Sectors_no (.inl rfl)) rfl rfl ?_
  rintro _ _ ⟨rfl, e_⟩; replace H := H.heapEq e_; clear e_
  refine s_val rfl (x_eql rfl rfl) ?_
  refine s_val rfl (x_assign (by conv => lhs; whnf)) ?_
  refine s_end ?_
  refine WP_cond_true rfl ?_
  refine WP_r rfl ?_
  refine s_val rfl (x_assign (by conv => lhs; whnf)) ?_
  refine s_end ?_
  refine WP_ret ?_
  refine blockQ_r ?_
  refine thenQ_r ?_
  refine retQ_1 rfl (by conv => lhs; whnf) ?_
  exact ⟨rfl, H.ext⟩
theorem Check_nil {w : World} (at_ cap : Int) : Calls Tryd.prog 9 #[.pointer none, .int .i64 at_, .int .i64 cap] w (Ret fun v w' => v = .tuple #[.slice none 0 0, .int .i64 1] ∧ Ext w w') := by
  have H := Sat.nil (Ext.refl w)
  refine calls_of Tryd.func9 rfl rfl ?_
  refine WP_r rfl ?_
  refine s_val rfl (x_assign (by conv => lhs; whnf)) ?_
  refine s_val rfl (x_assign (by conv => lhs; whnf)) ?_
  refine s_end ?_
  refine WP_r rfl ?_
  refine s_val rfl (x_move (by conv => lhs; whnf)) ?_
  refine s_val rfl (x_move (by conv => lhs; whnf)) ?_
  refine s_val rfl (x_move (by conv => lhs; whnf)) ?_
  refine s_call rfl (by kernel_rfl) (read_nil at_ cap) rfl rfl ?_
  rintro _ _ ⟨rfl, e_⟩
  replace H := H.more (Sat.nil e_)
  clear e_
  simp only [List.append_nil] at H
  refine s_val rfl (x_move (by conv => lhs; whnf)) ?_
  refine s_val rfl (x_extract rfl rfl) ?_
  refine s_val rfl (x_extract rfl rfl) ?_
  refine s_allocA rfl (show ZeroT Tryd.prog 62 (.agg #[.int .i64 0, .slice none 0 0, .slice none 0 0]) by unfold ZeroT; kernel_rfl) H ?_
  clear H; intro b8 _ H
  simp only [List.cons_append, List.nil_append] at H
  refine s_storeAll rfl (n := 3) (by kernel_rfl) rfl rfl rfl (lcells_one _ _ _ _ _ _ _) H (i := 0) rfl rfl ?_
  clear H; intro _ H
  simp only [List.set_cons_zero, List.set_cons_succ] at H
  refine s_val rfl (x_assign (by conv => lhs; whnf)) ?_
  refine s_end ?_
  refine WP_r rfl ?_
  refine s_val rfl (x_field (off := 1) (by kernel_rfl) rfl) ?_
  refine s_val rfl (x_load (by kernel_rfl) rfl (by first | assumption | exact H.cell (i := 0) rfl rfl | exact H.cell (i := 1) rfl rfl | exact H.cell (i := 2) rfl rfl | exact H.cell (i := 3) rfl rfl | exact H.cell (i := 4) rfl rfl | exact H.cell (i := 5) rfl rfl | exact H.cell (i := 6) rfl rfl | exact H.cell (i := 7) rfl rfl | exact H.cell (i := 8) rfl rfl | exact H.cell (i := 9) rfl rfl | exact H.cell (i := 10) rfl rfl | exact H.cell (i := 11) rfl rfl)) ?_
  refine s_val rfl (x_move (by conv => lhs; whnf)) ?_
  refine s_val rfl (x_assign (by conv => lhs; whnf)) ?_
  refine s_val rfl (x_assign (by conv => lhs; whnf)) ?_
  refine s_end ?_
  refine WP_ret ?_
  refine retQ_2 rfl (by conv => lhs; whnf) (by conv => lhs; whnf) ?_
  exact ⟨rfl, H.ext⟩
theorem Open_nil {w : World} (at_ cap : Int) : Calls Tryd.prog 8 #[.pointer none, .int .i64 at_, .int .i64 cap] w (Ret fun v w' => v = .tuple #[.pointer none, .int .i64 1] ∧ Ext w w') := by
  have H := Sat.nil (Ext.refl w)
  refine calls_of Tryd.func8 rfl rfl ?_
  refine WP_r rfl ?_
  refine s_val rfl (x_assign (by conv => lhs; whnf)) ?_
  refine s_val rfl (x_assign (by conv => lhs; whnf)) ?_
  refine s_end ?_
  refine WP_r rfl ?_
  refine s_val rfl (x_move (by conv => lhs; whnf)) ?_
  refine s_val rfl (x_move (by conv => lhs; whnf)) ?_
  refine s_val rfl (x_move (by conv => lhs; whnf)) ?_
  refine s_call rfl (by kernel_rfl) (read_nil at_ cap) rfl rfl ?_
  rintro _ _ ⟨rfl, e_⟩
  replace H := H.more (Sat.nil e_)
  clear e_
  simp only [List.append_nil] at H
  refine s_val rfl (x_move (by conv => lhs; whnf)) ?_
  refine s_val rfl (x_extract rfl rfl) ?_
  refine s_val rfl (x_extract rfl rfl) ?_
  refine s_allocA rfl (show ZeroT Tryd.prog 62 (.agg #[.int .i64 0, .slice none 0 0, .slice none 0 0]) by unfold ZeroT; kernel_rfl) H ?_
  clear H; intro b8 _ H
  simp only [List.cons_append, List.nil_append] at H
  refine s_storeAll rfl (n := 3) (by kernel_rfl) rfl rfl rfl (lcells_one _ _ _ _ _ _ _) H (i := 0) rfl rfl ?_
  clear H; intro _ H
  simp only [List.set_cons_zero, List.set_cons_succ] at H
  refine s_val rfl (x_assign (by conv => lhs; whnf)) ?_
  refine s_end ?_
  refine WP_seq ?_
  refine WP_r rfl ?_
  refine s_val rfl (x_move (by conv => lhs; whnf)) ?_
  refine s_val rfl (x_eql rfl rfl) ?_
  refine s_val rfl (x_move (by conv => lhs; whnf)) ?_
  refine s_out rfl ?_
  refine s_out rfl ?_
  refine s_out rfl ?_
  refine s_out rfl ?_
  refine s_val rfl (x_pick_false rfl (by conv => lhs; whnf)) ?_
  refine s_end ?_
  refine WP_cond_false rfl ?_
  refine WP_skip ?_
  refine thenQ_n ?_
  refine WP_seq ?_
  refine WP_r rfl ?_
  refine s_val rfl (x_move (by conv => lhs; whnf)) ?_
  refine s_val rfl (x_neq rfl rfl) ?_
  refine s_end ?_
  refine WP_cond_true rfl ?_
  refine WP_r rfl ?_
  refine s_val rfl (x_move (by conv => lhs; whnf)) ?_
  refine s_val rfl (x_assign (by conv => lhs; whnf)) ?_
  refine s_val rfl (x_assign (by conv => lhs; whnf)) ?_
  refine s_end ?_
  refine WP_ret ?_
  refine thenQ_r ?_
  refine retQ_2 rfl (by conv => lhs; whnf) (by conv => lhs; whnf) ?_
  exact ⟨rfl, H.ext⟩
theorem WalNone_calls {w : World} (hh : Half w) {ia : Option Addr} {n ic : Nat} {l : List Int} (HI : Rd w ia n ic 1 (l.map intF)) (hn : n ≤ 1000000000000) :
    Calls Tryd.prog 3 #[.slice ia n ic] w (Ret fun v w' => v = .bool true ∧ Ext w w') := by
  have H := Sat.nil (Ext.refl w)
  refine calls_of Tryd.func3 rfl rfl ?_
  refine WP_r rfl ?_
  refine s_val rfl (x_assign (by conv => lhs; whnf)) ?_
  refine s_end ?_
  refine WP_seq ?_
  refine WP_r rfl ?_
  refine s_call rfl (by kernel_rfl) (works_calls (hh.ext H.ext)) rfl rfl ?_
  rintro _ _ ⟨rfl, e_⟩
  replace H := H.more (Sat.nil e_)
  clear e_
  simp only [List.append_nil] at H
  refine s_val rfl (x_not rfl) ?_
  refine s_end ?_
  refine WP_cond_false rfl ?_
  refine WP_skip ?_
  refine thenQ_n ?_
  refine WP_r rfl ?_
  refine s_val rfl (x_assign (by conv => lhs; whnf)) ?_
  refine s_end ?_
  refine WP_r rfl ?_
  refine s_allocA rfl (show ZeroT Tryd.prog 27 (.agg #[.pointer none, .int .i64 0, .int .i64 0, .int .i64 0, .bool false]) by unfold ZeroT; kernel_rfl) H ?_
  clear H; intro b4 _ H
  simp only [List.cons_append, List.nil_append] at H
  refine s_end ?_
  refine WP_r rfl ?_
  refine s_call rfl (by kernel_rfl) (Open_nil 0 1) rfl rfl ?_
  rintro _ _ ⟨rfl, e_⟩
  replace H := H.more (Sat.nil e_)
  clear e_
  simp only [List.append_nil] at H
  have hz : ∀ w', Ext w w' → True := fun _ _ => trivial
  refine s_val rfl (x_move (by conv => lhs; whnf)) ?_
  refine s_val rfl (x_extract rfl rfl) ?_
  refine s_val rfl (x_extract rfl rfl) ?_
  refine s_val rfl (x_assign (by conv => lhs; whnf)) ?_
  refine s_val rfl (x_assign (by conv => lhs; whnf)) ?_
  refine s_end ?_
  refine WP_r rfl ?_
  refine s_call rfl (by kernel_rfl) (Check_nil 0 1) rfl rfl ?_
  rintro _ _ ⟨rfl, e_⟩
  replace H := H.more (Sat.nil e_)
  clear e_
  simp only [List.append_nil] at H
  refine s_val rfl (x_move (by conv => lhs; whnf)) ?_
  refine s_val rfl (x_extract rfl rfl) ?_
  refine s_val rfl (x_extract rfl rfl) ?_
  refine s_val rfl (x_assign (by conv => lhs; whnf)) ?_
  refine s_val rfl (x_assign (by conv => lhs; whnf)) ?_
  refine s_end ?_
  refine WP_r rfl ?_
  refine s_val rfl (x_move (by conv => lhs; whnf)) ?_
  refine s_val rfl (x_eql rfl rfl) ?_
  refine s_val rfl (x_move (by conv => lhs; whnf)) ?_
  refine s_val rfl (x_move (by conv => lhs; whnf)) ?_
  refine s_val rfl (x_eqlPtrNil (by kernel_rfl) rfl) ?_
  refine s_val rfl (x_pick_true rfl (by conv => lhs; whnf)) ?_
  refine s_val rfl (x_move (by conv => lhs; whnf)) ?_
  refine s_val rfl (x_move (by conv => lhs; whnf)) ?_
  refine s_val rfl (x_move (by conv => lhs; whnf)) ?_
  refine s_val rfl (x_eql rfl rfl) ?_
  refine s_val rfl (x_pick_true rfl (by conv => lhs; whnf)) ?_
  refine s_val rfl (x_move (by conv => lhs; whnf)) ?_
  refine s_call rfl (by kernel_rfl) (Format_nil 0 1) rfl rfl ?_
  rintro _ _ ⟨rfl, e_⟩
  replace H := H.more (Sat.nil e_)
  clear e_
  simp only [List.append_nil] at H
  refine s_val rfl (x_move (by conv => lhs; whnf)) ?_
  refine s_val rfl (x_eql rfl rfl) ?_
  refine s_val rfl (x_pick_true rfl (by conv => lhs; whnf)) ?_
  refine s_val rfl (x_move (by conv => lhs; whnf)) ?_
  refine s_val rfl (x_move (by conv => lhs; whnf)) ?_
  refine s_val rfl (x_move (by conv => lhs; whnf)) ?_
  refine s_call rfl (by kernel_rfl) (blocks_calls (HI.ext H.ext) hn 1) rfl rfl ?_
  rintro _ _ ⟨ba, bc, bks, rfl, _, H4⟩
  replace H := (H.more H4).re 0 1 [0, 1] (by kernel_rfl)
  clear H4
  refine s_call rfl (by kernel_rfl) (Commit_no (.inl rfl)) rfl rfl ?_
  rintro _ w_ ⟨rfl, e_⟩; replace e_ := e_.symm; subst e_
  refine s_val rfl (x_move (by conv => lhs; whnf)) ?_
  refine s_val rfl (x_eql rfl rfl) ?_
  refine s_val rfl (x_pick_true rfl (by conv => lhs; whnf)) ?_
  refine s_val rfl (x_move (by conv => lhs; whnf)) ?_
  refine s_val rfl (x_move (by conv => lhs; whnf)) ?_
  refine s_call rfl (by kernel_rfl) (blocks_calls (HI.ext H.ext) hn 1) rfl rfl ?_
  rintro _ _ ⟨ba2, bc2, bks2, rfl, _, H4⟩
  replace H := (H.more H4).re 0 1 [0, 1] (by kernel_rfl)
  clear H4
  refine s_call rfl (by kernel_rfl) (Commit_no (.inr ⟨_, rfl, H.cell (i := 0) rfl rfl⟩)) rfl rfl ?_
  rintro _ w_ ⟨rfl, e_⟩; replace e_ := e_.symm; subst e_
  refine s_val rfl (x_move (by conv => lhs; whnf)) ?_
  refine s_val rfl (x_eql rfl rfl) ?_
  refine s_val rfl (x_pick_true rfl (by conv => lhs; whnf)) ?_
  refine s_val rfl (x_move (by conv => lhs; whnf)) ?_
  refine s_val rfl (x_move (by conv => lhs; whnf)) ?_
  refine s_call rfl (by kernel_rfl) (Turn_no (.inl rfl)) rfl rfl ?_
  rintro _ w_ ⟨rfl, e_⟩; replace e_ := e_.symm; subst e_
  refine s_call rfl (by kernel_rfl) (Turn_no (.inr ⟨_, rfl, H.cell (i := 0) rfl rfl⟩)) rfl rfl ?_
  rintro _ w_ ⟨rfl, e_⟩; replace e_ := e_.symm; subst e_
  refine s_val rfl (x_addi rfl rfl (by omega)) ?_
  refine s_val rfl (x_move (by conv => lhs; whnf)) ?_
  refine s_call rfl (by kernel_rfl) (Home_no (.inl rfl)) rfl rfl ?_
  rintro _ w_ ⟨rfl, e_⟩; replace e_ := e_.symm; subst e_
  refine s_val rfl (x_addi rfl rfl (by omega)) ?_
  refine s_call rfl (by kernel_rfl) (Home_no (.inr ⟨_, rfl, H.cell (i := 0) rfl rfl⟩)) rfl rfl ?_
  rintro _ w_ ⟨rfl, e_⟩; replace e_ := e_.symm; subst e_
  refine s_val rfl (x_addi rfl rfl (by omega)) ?_
  refine s_val rfl (x_move (by conv => lhs; whnf)) ?_
  refine s_call rfl (by kernel_rfl) (Capacity_no (.inl rfl)) rfl rfl ?_
  rintro _ w_ ⟨rfl, e_⟩; replace e_ := e_.symm; subst e_
  refine s_val rfl (x_addi rfl rfl (by omega)) ?_
  refine s_call rfl (by kernel_rfl) (Capacity_no (.inr ⟨_, rfl, H.cell (i := 0) rfl rfl⟩)) rfl rfl ?_
  rintro _ w_ ⟨rfl, e_⟩; replace e_ := e_.symm; subst e_
  refine s_val rfl (x_addi rfl rfl (by omega)) ?_
  refine s_val rfl (x_eql rfl rfl) ?_
  refine s_val rfl (x_pick_true rfl (by conv => lhs; whnf)) ?_
  refine s_val rfl (x_assign (by conv => lhs; whnf)) ?_
  refine s_end ?_
  refine WP_ret ?_
  refine retQ_1 rfl (by conv => lhs; whnf) ?_
  exact ⟨rfl, H.ext⟩
end Go.Sl
