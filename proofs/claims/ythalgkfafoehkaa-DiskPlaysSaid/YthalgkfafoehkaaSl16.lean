/- Arguments: how much they weigh, slice by slice, to the bottom; a slice and a struct as they are handed in. Holds for every program. -/
import Derived.Test.YthalgkfafoehkaaSl15
import Derived.SizedLaws
namespace Go.Sl
open Go.ChangeShapes Go.WideShapes Go.RowKit Go.Deep
/-- Each string and slice in a datum is of a size that a process can hold. -/
def Fit {H : Type} (P : Program) (t : TypeId) (d : DataW H) : Prop := ∀ n ∈ DataW.weights P t d, n ≤ reachBytes
section
variable {H : Type} {enc : TypeId × Value → H} {P : Program} {W : World} {t e : TypeId} {sz : Nat}
theorem Fit.of {ts : List TypeId} {ds : List (DataW H)} (h : (DataW.weightsEach P ts ds).all (· ≤ reachBytes) = true) {j : Nat} {d : DataW H} (ht : ts[j]? = some t) (hd : ds[j]? = some d) : Fit P t d := fun n hn => by
  have := List.all_eq_true.1 h _ (DataW.weights_mem_each ht hd n hn)
  simpa using this
theorem weightsAll_mem {d : DataW H} : ∀ {l : List (DataW H)}, d ∈ l → ∀ n ∈ DataW.weights P e d, n ∈ DataW.weightsAll P e l := by
  intro l
  induction l with
  | nil => intro h; cases h
  | cons x r ih =>
    intro h n hn
    simp only [DataW.weightsAll, List.mem_append]
    rcases List.mem_cons.1 h with q | q
    · subst q; exact .inl hn
    · exact .inr (ih q n hn)
theorem Fit.slice {elems spare : List (DataW H)} (hu : P.underlying t = some (.slice e)) (h : Fit P t (.slice elems spare)) : (elems.length + spare.length) * P.bytesOf e ≤ reachBytes ∧ (∀ d ∈ elems, Fit P e d) ∧ ∀ d ∈ spare, Fit P e d := by
  unfold Fit at h
  simp only [DataW.weights, hu, List.mem_cons, List.mem_append] at h
  exact ⟨h _ (.inl rfl), fun d hd n hn => h n (.inr (.inl (weightsAll_mem hd n hn))), fun d hd n hn => h n (.inr (.inr (weightsAll_mem hd n hn)))⟩
theorem Fit.field {fs : Array Field} {parts : List (DataW H)} (hu : P.underlying t = some (.struct fs)) (h : Fit P t (.agg parts)) {i : Nat} {f : Field} {d : DataW H} (hf : fs[i]? = some f) (hd : parts[i]? = some d) : Fit P f.type d := fun n hn => by
  refine h n ?_
  simp only [DataW.weights, hu]
  exact DataW.weights_mem_each (j := i) (by simp [hf]) hd n hn
/-- A slice as it is handed in, with its size. -/
theorem open_rowF {fuel : Nat} {cs : List Value} {x : DataW H × List MemPlace} (ht : P.underlying t = some (.slice e)) (hsz : P.cellsOf e = sz) (h0 : 0 < sz) (h : DataW.trod enc P W 0 (fun _ => true) true fuel t cs = some x) (hw : Fit P t x.1) :
    ∃ (a : Option Addr) (n cap : Nat) (rows : List (List Value)), cs = [.slice a n cap] ∧ cap ≤ maxLen ∧ cap * P.bytesOf e ≤ reachBytes ∧ rows.length = n ∧ (∀ r ∈ rows, r.length = sz) ∧ Rd W a n cap sz rows.flatten ∧
      ∀ r ∈ rows, ∃ (fuel : Nat) (x : DataW H × List MemPlace), DataW.trod enc P W 0 (fun _ => true) true fuel e r = some x ∧ Fit P e x.1 := by
  rcases open_slice ht h with ⟨rfl, rfl⟩ | ⟨a, len, cap, m, n, D, Pl, rfl, hb, hl, hm, hmm, hx, hi⟩
  · exact ⟨none, 0, 0, [], rfl, Nat.zero_le _, by rw [Nat.zero_mul]; exact Nat.zero_le _, rfl, (fun r hr => by cases hr), ⟨by simp, Nat.le_refl _, fun h => absurd h (Nat.lt_irrefl 0)⟩, fun r hr => by cases hr⟩
  · have hm' : m = cap := by simpa using hmm
    subst hm'
    have hall : ∀ i, ∃ cs' : List Value, i < m → W.cells? 0 (a.add (i * sz)) sz = some cs' ∧ DataW.trod enc P W 0 (fun _ => true) true n e cs' = some (D i, Pl i) := fun i => by
      by_cases hlt : i < m
      · obtain ⟨c, h1, h2⟩ := hi i hlt
        rw [hsz] at h1
        exact ⟨c, fun _ => ⟨h1, h2⟩⟩
      · exact ⟨[], fun h => absurd h hlt⟩
    obtain ⟨f, hf⟩ := Classical.axiomOfChoice hall
    have hrl : ∀ r ∈ (List.range len).map f, r.length = sz := fun r hr => by
      obtain ⟨i, hi, rfl⟩ := List.mem_map.1 hr
      exact (World.cells?_some (hf i (by have := List.mem_range.1 hi; omega)).1).2.1
    rw [hx] at hw
    obtain ⟨w1, w2, w3⟩ := hw.slice ht
    have hcap : m * P.bytesOf e ≤ reachBytes := by
      simp only [List.length_map, List.length_range] at w1
      rwa [Nat.add_sub_cancel' hl] at w1
    refine ⟨some a, len, m, (List.range len).map f, rfl, hm, hcap, by simp, hrl, ⟨?_, hl, fun hn => ?_⟩, fun r hr => ?_⟩
    · rw [flat_len _ hrl]; simp
    · have h00 := (World.cells?_some (hf 0 (by omega)).1).2.2 0 h0
      have hl0 := (World.cells?_some (hf 0 (by omega)).1).2.1
      rw [Nat.zero_mul] at h00
      have ha := cell_spot (w := W) (a := a) (v := (f 0)[0]'(by omega)) (by
        have e1 : (a.add 0).add 0 = a := rfl
        rw [e1] at h00; rw [h00]; exact List.getElem?_eq_getElem _)
      refine ⟨a.block, a.off, congrArg some ha, fun q u hq => ?_⟩
      rw [flat_get h0 _ hrl] at hq
      have hql : q / sz < len := by
        rcases Nat.lt_or_ge (q / sz) len with x | x
        · exact x
        · rw [List.getElem?_eq_none (by simpa using x)] at hq; cases hq
      have hqq : ((List.range len).map f)[q / sz]? = some (f (q / sz)) := by
        rw [List.getElem?_map, List.getElem?_range hql]; rfl
      rw [hqq] at hq
      have hc := (World.cells?_some (hf (q / sz) (by omega)).1).2.2 (q % sz) (Nat.mod_lt _ h0)
      rw [ha, add_off, add_off] at hc
      have hd := Nat.div_add_mod q sz
      rw [Nat.mul_comm] at hd
      rw [Nat.add_assoc, hd] at hc
      rw [hc]; exact hq
    · obtain ⟨i, hi, rfl⟩ := List.mem_map.1 hr
      have hil := List.mem_range.1 hi
      exact ⟨n, _, (hf i (by omega)).2, w2 _ (List.mem_map.2 ⟨i, hi, rfl⟩)⟩
/-- A struct of one-celled fields as it is handed in. -/
theorem open_structF {fs : Array Field} {fuel : Nat} {r : List Value} {x : DataW H × List MemPlace} (hs : P.underlying t = some (.struct fs)) (hone : oneCellFields P fs = true) (hl : r.length = fs.size)
    (h : DataW.trod enc P W 0 (fun _ => true) true fuel t r = some x) (hw : Fit P t x.1) :
    ∃ n, ∀ (i : Nat) (f : Field) (c : Value), fs[i]? = some f → r[i]? = some c → ∃ y, DataW.trod enc P W 0 (fun _ => true) true n f.type [c] = some y ∧ Fit P f.type y.1 := by
  obtain ⟨xs, n, _, rfl, _, hlen, hg⟩ := DataW.trod_struct hs h
  refine ⟨n, fun i f c hf hc => ?_⟩
  obtain ⟨o, k⟩ := hone_of hone i f hf
  have h1 := hg i f hf
  have hi : i < r.length := (List.getElem?_eq_some_iff.1 hc).1
  have hd : (r.drop f.offset).take (P.cellsOf f.type) = [c] := by
    rw [o, k, List.drop_eq_getElem_cons hi]
    rw [List.getElem?_eq_getElem hi] at hc
    injection hc with hc
    rw [hc]; rfl
  rw [hd] at h1
  have hxi : i < xs.length := by omega
  rw [List.getElem?_eq_getElem hxi] at h1
  exact ⟨_, h1, hw.field (i := i) hs hf (by rw [List.getElem?_map, List.getElem?_eq_getElem hxi]; rfl)⟩
/-- A list of whole numbers as it is handed in. -/
theorem open_intsF {fuel : Nat} {v : Value} {x : DataW H × List MemPlace} (ht : P.underlying t = some (.slice e)) (he : P.underlying e = some (.int .i64)) (hsz : P.cellsOf e = 1) (hb : P.bytesOf e = 8)
    (h : DataW.trod enc P W 0 (fun _ => true) true fuel t [v] = some x) (hw : Fit P t x.1) :
    ∃ (a : Option Addr) (n cap : Nat) (l : List Int), v = .slice a n cap ∧ cap * 8 ≤ reachBytes ∧ Rd W a n cap 1 (l.map fun n => Value.int .i64 n) ∧ ∀ k ∈ l, (Lit.int .i64 k).wf = true := by
  obtain ⟨a, n, cap, rows, hc, hm, hbb, hrl, hr1, hR, hall⟩ := open_rowF ht hsz (by decide) h hw
  simp only [List.cons.injEq, and_true] at hc
  subst hc
  have key : ∀ rows : List (List Value), (∀ r ∈ rows, r.length = 1) → (∀ r ∈ rows, ∃ (fuel : Nat) (x : DataW H × List MemPlace), DataW.trod enc P W 0 (fun _ => true) true fuel e r = some x ∧ Fit P e x.1) →
      ∃ l : List Int, rows.flatten = l.map (fun n => Value.int .i64 n) ∧ ∀ k ∈ l, (Lit.int .i64 k).wf = true := by
    intro rows
    induction rows with
    | nil => intro _ _; exact ⟨[], rfl, fun k hk => by cases hk⟩
    | cons r rows ih =>
      intro h1 h2
      obtain ⟨l, hl, hlw⟩ := ih (fun q hq => h1 q (List.mem_cons_of_mem _ hq)) (fun q hq => h2 q (List.mem_cons_of_mem _ hq))
      obtain ⟨fuel, x, hx, _⟩ := h2 r (List.mem_cons_self ..)
      obtain ⟨z, rfl, _, hzw⟩ := DataW.trod_int he hx
      refine ⟨z :: l, by rw [List.flatten_cons, hl]; rfl, fun k hk => ?_⟩
      rcases List.mem_cons.1 hk with rfl | hk
      · exact hzw
      · exact hlw k hk
  obtain ⟨l, hl, hlw⟩ := key rows hr1 hall
  rw [hl] at hR
  exact ⟨a, n, cap, l, rfl, by rw [hb] at hbb; exact hbb, hR, hlw⟩
/-- Bytes as they are handed in. -/
theorem open_bytesF {fuel : Nat} {v : Value} {x : DataW H × List MemPlace} (ht : P.underlying t = some (.slice e)) (he : P.underlying e = some (.int .u8)) (hsz : P.cellsOf e = 1) (hb : P.bytesOf e = 1)
    (h : DataW.trod enc P W 0 (fun _ => true) true fuel t [v] = some x) (hw : Fit P t x.1) :
    ∃ (a : Option Addr) (n cap : Nat) (l : List UInt8), v = .slice a n cap ∧ cap ≤ reachBytes ∧ Rd W a n cap 1 (l.map fun b => Value.int .u8 b.toNat) := by
  obtain ⟨a, n, cap, rows, hc, hm, hbb, hrl, hr1, hR, hall⟩ := open_rowF ht hsz (by decide) h hw
  simp only [List.cons.injEq, and_true] at hc
  subst hc
  have key : ∀ rows : List (List Value), (∀ r ∈ rows, r.length = 1) → (∀ r ∈ rows, ∃ (fuel : Nat) (x : DataW H × List MemPlace), DataW.trod enc P W 0 (fun _ => true) true fuel e r = some x ∧ Fit P e x.1) →
      ∃ l : List UInt8, rows.flatten = l.map fun b => Value.int .u8 b.toNat := by
    intro rows
    induction rows with
    | nil => intro _ _; exact ⟨[], rfl⟩
    | cons r rows ih =>
      intro h1 h2
      obtain ⟨l, hl⟩ := ih (fun q hq => h1 q (List.mem_cons_of_mem _ hq)) (fun q hq => h2 q (List.mem_cons_of_mem _ hq))
      obtain ⟨fuel, x, hx, _⟩ := h2 r (List.mem_cons_self ..)
      obtain ⟨z, rfl, _, w3⟩ := DataW.trod_int he hx
      have h5 : IntKind.min .u8 = 0 := by decide
      have h6 : IntKind.max .u8 = 255 := by decide
      simp only [Lit.wf, Bool.and_eq_true, decide_eq_true_eq, h5, h6] at w3
      refine ⟨UInt8.ofNat z.toNat :: l, ?_⟩
      have e : ((UInt8.ofNat z.toNat).toNat : Int) = z := by
        rw [UInt8.toNat_ofNat_of_lt' (by show z.toNat < 256; omega)]; omega
      rw [List.flatten_cons, hl, List.map_cons, e]; rfl
  obtain ⟨l, hl⟩ := key rows hr1 hall
  rw [hl] at hR
  exact ⟨a, n, cap, l, rfl, by rw [hb, Nat.mul_one] at hbb; exact hbb, hR⟩
end
end Go.Sl
