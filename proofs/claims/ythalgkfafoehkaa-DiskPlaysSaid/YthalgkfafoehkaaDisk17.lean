/- The laws' acts as they are handed in. -/
import Derived.Test.YthalgkfafoehkaaDisk16
import Derived.Test.YthalgkfafoehkaaSl15
namespace Go.Sl
open Go.Proofs Go.ChangeShapes Go.WideShapes Go.RowKit Go.Deep
section
variable {H : Type} {enc : TypeId × Value → H} {P : Program} {W : World}
theorem row5 {t : TypeId} {f0 f1 f2 f3 f4 : Field} {fuel : Nat} {r : List Value} {x : DataW H × List MemPlace} (hs : P.underlying t = some (.struct #[f0, f1, f2, f3, f4])) (hone : oneCellFields P #[f0, f1, f2, f3, f4] = true) (hl : r.length = 5)
    (h : DataW.trod enc P W 0 (fun _ => true) true fuel t r = some x) :
    ∃ (c0 c1 c2 c3 c4 : Value) (y0 y1 y2 y3 y4 : DataW H × List MemPlace) (n : Nat), r = [c0, c1, c2, c3, c4] ∧ DataW.trod enc P W 0 (fun _ => true) true n f0.type [c0] = some y0 ∧ DataW.trod enc P W 0 (fun _ => true) true n f1.type [c1] = some y1 ∧
      DataW.trod enc P W 0 (fun _ => true) true n f2.type [c2] = some y2 ∧ DataW.trod enc P W 0 (fun _ => true) true n f3.type [c3] = some y3 ∧ DataW.trod enc P W 0 (fun _ => true) true n f4.type [c4] = some y4 := by
  match r, hl with
  | [c0, c1, c2, c3, c4], _ =>
    obtain ⟨xs, n, _, hx, _, hlen, hg⟩ := DataW.trod_struct hs h
    obtain ⟨o0, k0⟩ := hone_of hone 0 f0 rfl
    obtain ⟨o1, k1⟩ := hone_of hone 1 f1 rfl
    obtain ⟨o2, k2⟩ := hone_of hone 2 f2 rfl
    obtain ⟨o3, k3⟩ := hone_of hone 3 f3 rfl
    obtain ⟨o4, k4⟩ := hone_of hone 4 f4 rfl
    match xs, hlen with
    | [y0, y1, y2, y3, y4], _ =>
      exact ⟨c0, c1, c2, c3, c4, y0, y1, y2, y3, y4, n, rfl, by simpa [o0, k0] using hg 0 f0 rfl, by simpa [o1, k1] using hg 1 f1 rfl, by simpa [o2, k2] using hg 2 f2 rfl, by simpa [o3, k3] using hg 3 f3 rfl, by simpa [o4, k4] using hg 4 f4 rfl⟩
end
/-- An act's picks read as whole numbers. -/
def ActOk (W : World) (b : ActV) : Prop := b.pc ≤ maxLen ∧ ∃ picks : List Int, Rd W b.pa b.pn b.pc 1 (picks.map intF)
section
variable {H : Type} {enc : TypeId × Value → H} {W : World}
theorem open_ints {fuel : Nat} {v : Value} {x : DataW H × List MemPlace} (h : DataW.trod enc Try.prog W 0 (fun _ => true) true fuel 31 [v] = some x) : ∃ (a : Option Addr) (n cap : Nat) (l : List Int), v = .slice a n cap ∧ cap ≤ maxLen ∧ Rd W a n cap 1 (l.map intF) := by
  obtain ⟨a, n, cap, rows, hc, hm, hrl, hr1, hR, hall⟩ := open_row (P := Try.prog) (e := 3) Try.underlying31 (sz := 1) (by kernel_rfl) (by decide) h
  simp only [List.cons.injEq, and_true] at hc
  subst hc
  have key : ∀ rows : List (List Value), (∀ r ∈ rows, r.length = 1) → (∀ r ∈ rows, ∃ (fuel : Nat) (x : DataW H × List MemPlace), DataW.trod enc Try.prog W 0 (fun _ => true) true fuel 3 r = some x) → ∃ l : List Int, rows.flatten = l.map intF := by
    intro rows
    induction rows with
    | nil => intro _ _; exact ⟨[], rfl⟩
    | cons r rows ih =>
      intro h1 h2
      obtain ⟨l, hl⟩ := ih (fun q hq => h1 q (List.mem_cons_of_mem _ hq)) (fun q hq => h2 q (List.mem_cons_of_mem _ hq))
      obtain ⟨fuel, x, hx⟩ := h2 r (List.mem_cons_self ..)
      obtain ⟨z, rfl, _, _⟩ := DataW.trod_int Try.underlying3 hx
      exact ⟨z :: l, by rw [List.flatten_cons, hl]; rfl⟩
  obtain ⟨l, hl⟩ := key rows hr1 hall
  rw [hl] at hR
  exact ⟨a, n, cap, l, rfl, hm, hR⟩
theorem open_act {fuel : Nat} {r : List Value} {x : DataW H × List MemPlace} (hl : r.length = 5) (h : DataW.trod enc Try.prog W 0 (fun _ => true) true fuel 33 r = some x) : ∃ b : ActV, r = b.cells ∧ ActOk W b := by
  obtain ⟨c0, c1, c2, c3, c4, y0, y1, y2, y3, y4, n, rfl, h0, h1, h2, h3, h4⟩ := row5 Try.underlying33 (by kernel_rfl) hl h
  obtain ⟨z0, e0, _, _⟩ := DataW.trod_int Try.underlying3 h0
  obtain ⟨z1, e1, _, _⟩ := DataW.trod_int Try.underlying3 h1
  obtain ⟨z2, e2, _, _⟩ := DataW.trod_int Try.underlying3 h2
  obtain ⟨z3, e3, _, w3⟩ := DataW.trod_int Try.underlying5 h3
  obtain ⟨a, k, cap, l, e4, hm, hR⟩ := open_ints h4
  simp only [List.cons.injEq, and_true] at e0 e1 e2 e3
  subst e0 e1 e2 e3 e4
  have h5 : IntKind.min .u8 = 0 := by decide
  have h6 : IntKind.max .u8 = 255 := by decide
  simp only [Lit.wf, Bool.and_eq_true, decide_eq_true_eq, h5, h6] at w3
  refine ⟨⟨z0, z1, z2, UInt8.ofNat z3.toNat, a, k, cap⟩, ?_, hm, l, hR⟩
  have e : ((UInt8.ofNat z3.toNat).toNat : Int) = z3 := by
    rw [UInt8.toNat_ofNat_of_lt' (by show z3.toNat < 256; omega)]; omega
  unfold ActV.cells
  rw [e]
theorem open_acts {r : Reach} {b0 : Nat} {v : Value} {d : DataW H} {ps : List MemPlace} (hval : Value.okWide Try.prog W r b0 22 v) (h : DataW.Trod enc Try.prog W 0 (fun _ => true) true 22 v d ps) :
    ∃ (a : Option Addr) (n cap : Nat) (acts : List ActV), v = .slice a n cap ∧ cap ≤ maxLen ∧ Rd W a n cap 5 (actCells acts) ∧ ∀ b ∈ acts, ActOk W b := by
  obtain ⟨a, n, cap, rfl⟩ := okWide_slice Try.underlying22 hval
  obtain ⟨fuel, hf⟩ := h
  obtain ⟨a', n', cap', rows, hc, hm, hrl, hr1, hR, hall⟩ := open_row (P := Try.prog) (e := 33) Try.underlying22 (sz := 5) (by kernel_rfl) (by decide) hf
  have hc2 : (Value.slice a n cap).cells.toList = [.slice a n cap] := rfl
  rw [hc2] at hc
  simp only [List.cons.injEq, Value.slice.injEq, and_true] at hc
  obtain ⟨rfl, rfl, rfl⟩ := hc
  have key : ∀ rows : List (List Value), (∀ r ∈ rows, r.length = 5) → (∀ r ∈ rows, ∃ (fuel : Nat) (x : DataW H × List MemPlace), DataW.trod enc Try.prog W 0 (fun _ => true) true fuel 33 r = some x) →
      ∃ l : List ActV, rows.flatten = actCells l ∧ ∀ b ∈ l, ActOk W b := by
    intro rows
    induction rows with
    | nil => intro _ _; exact ⟨[], rfl, fun b hb => by cases hb⟩
    | cons r rows ih =>
      intro h1 h2
      obtain ⟨l, hl, hok⟩ := ih (fun q hq => h1 q (List.mem_cons_of_mem _ hq)) (fun q hq => h2 q (List.mem_cons_of_mem _ hq))
      obtain ⟨fuel, x, hx⟩ := h2 r (List.mem_cons_self ..)
      obtain ⟨b, rfl, hb⟩ := open_act (h1 r (List.mem_cons_self ..)) hx
      refine ⟨b :: l, by rw [List.flatten_cons, hl]; rfl, fun c hc => ?_⟩
      rcases List.mem_cons.1 hc with rfl | hc
      · exact hb
      · exact hok c hc
  obtain ⟨l, hl, hok⟩ := key rows hr1 hall
  rw [hl] at hR
  exact ⟨a, n, cap, l, rfl, hm, hR, hok⟩
end
end Go.Sl
