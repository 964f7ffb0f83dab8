/- The laws' acts as they are handed in, with their sizes. -/
import Derived.Test.YthalgkfafoehkaaPlays3
import Derived.Test.YthalgkfafoehkaaSl16
namespace Go.Sl
open Go.Proofs Go.ChangeShapes Go.WideShapes Go.RowKit Go.Deep
section
variable {H : Type} {enc : TypeId × Value → H} {W : World}
theorem open_actF {fuel : Nat} {r : List Value} {x : DataW H × List MemPlace} (hl : r.length = 5) (h : DataW.trod enc Try.prog W 0 (fun _ => true) true fuel 33 r = some x) (hw : Fit Try.prog 33 x.1) : ∃ b : ActV, r = b.cells ∧ ActFit W b := by
  match r, hl with
  | [c0, c1, c2, c3, c4], hl =>
    obtain ⟨n, hg⟩ := open_structF Try.underlying33 (by kernel_rfl) hl h hw
    obtain ⟨y0, h0, _⟩ := hg 0 _ c0 rfl rfl
    obtain ⟨y1, h1, _⟩ := hg 1 _ c1 rfl rfl
    obtain ⟨y2, h2, _⟩ := hg 2 _ c2 rfl rfl
    obtain ⟨y3, h3, _⟩ := hg 3 _ c3 rfl rfl
    obtain ⟨y4, h4, f4⟩ := hg 4 _ c4 rfl rfl
    obtain ⟨z0, e0, _, _⟩ := DataW.trod_int Try.underlying3 h0
    obtain ⟨z1, e1, _, _⟩ := DataW.trod_int Try.underlying3 h1
    obtain ⟨z2, e2, _, w2⟩ := DataW.trod_int Try.underlying3 h2
    obtain ⟨z3, e3, _, w3⟩ := DataW.trod_int Try.underlying5 h3
    obtain ⟨a, k, cap, l, e4, hm, hR, _⟩ := open_intsF Try.underlying31 Try.underlying3 (by kernel_rfl) (by kernel_rfl) h4 f4
    simp only [List.cons.injEq, and_true] at e0 e1 e2 e3
    subst e0 e1 e2 e3 e4
    have h5 : IntKind.min .u8 = 0 := by decide
    have h6 : IntKind.max .u8 = 255 := by decide
    have h7 : IntKind.max .i64 = 9223372036854775807 := by decide
    simp only [Lit.wf, Bool.and_eq_true, decide_eq_true_eq, h5, h6, h7] at w3 w2
    refine ⟨⟨z0, z1, z2, UInt8.ofNat z3.toNat, a, k, cap⟩, ?_, by unfold reachBytes at hm; show cap ≤ _; omega, w2.2, l, hR⟩
    have e : ((UInt8.ofNat z3.toNat).toNat : Int) = z3 := by
      rw [UInt8.toNat_ofNat_of_lt' (by show z3.toNat < 256; omega)]; omega
    unfold ActV.cells
    rw [e]
theorem open_actsF {r : Reach} {b0 : Nat} {v : Value} {d : DataW H} {ps : List MemPlace} (hval : Value.okWide Try.prog W r b0 22 v) (h : DataW.Trod enc Try.prog W 0 (fun _ => true) true 22 v d ps) (hw : Fit Try.prog 22 d) :
    ∃ (a : Option Addr) (n cap : Nat) (acts : List ActV), v = .slice a n cap ∧ cap ≤ maxLen ∧ Rd W a n cap 5 (actCells acts) ∧ ∀ b ∈ acts, ActFit W b := by
  obtain ⟨a, n, cap, rfl⟩ := okWide_slice Try.underlying22 hval
  obtain ⟨fuel, hf⟩ := h
  obtain ⟨a', n', cap', rows, hc, hm, hbb, hrl, hr1, hR, hall⟩ := open_rowF (P := Try.prog) (e := 33) Try.underlying22 (sz := 5) (by kernel_rfl) (by decide) hf hw
  have hc2 : (Value.slice a n cap).cells.toList = [.slice a n cap] := rfl
  rw [hc2] at hc
  simp only [List.cons.injEq, Value.slice.injEq, and_true] at hc
  obtain ⟨rfl, rfl, rfl⟩ := hc
  have key : ∀ rows : List (List Value), (∀ r ∈ rows, r.length = 5) → (∀ r ∈ rows, ∃ (fuel : Nat) (x : DataW H × List MemPlace), DataW.trod enc Try.prog W 0 (fun _ => true) true fuel 33 r = some x ∧ Fit Try.prog 33 x.1) →
      ∃ l : List ActV, rows.flatten = actCells l ∧ ∀ b ∈ l, ActFit W b := by
    intro rows
    induction rows with
    | nil => intro _ _; exact ⟨[], rfl, fun b hb => by cases hb⟩
    | cons r rows ih =>
      intro h1 h2
      obtain ⟨l, hl, hok⟩ := ih (fun q hq => h1 q (List.mem_cons_of_mem _ hq)) (fun q hq => h2 q (List.mem_cons_of_mem _ hq))
      obtain ⟨fuel, x, hx, hxf⟩ := h2 r (List.mem_cons_self ..)
      obtain ⟨b, rfl, hb⟩ := open_actF (h1 r (List.mem_cons_self ..)) hx hxf
      refine ⟨b :: l, by rw [List.flatten_cons, hl]; rfl, fun c hc => ?_⟩
      rcases List.mem_cons.1 hc with rfl | hc
      · exact hb
      · exact hok c hc
  obtain ⟨l, hl, hok⟩ := key rows hr1 hall
  rw [hl] at hR
  exact ⟨a, n, cap, l, rfl, hm, hR, hok⟩
theorem open_imageF {r : Reach} {b0 : Nat} {v : Value} {d : DataW H} {ps : List MemPlace} (hval : Value.okWide Try.prog W r b0 37 v) (h : DataW.Trod enc Try.prog W 0 (fun _ => true) true 37 v d ps) (hw : Fit Try.prog 37 d) :
    ∃ (a : Option Addr) (n cap : Nat) (l : List UInt8), v = .slice a n cap ∧ n ≤ 140737488355328 ∧ Rd W a n cap 1 (bys l) := by
  obtain ⟨a, n, cap, rfl⟩ := okWide_slice Try.underlying37 hval
  obtain ⟨fuel, hf⟩ := h
  obtain ⟨a', n', cap', l, hc, hm, hR⟩ := open_bytesF Try.underlying37 Try.underlying5 (by kernel_rfl) (by kernel_rfl) hf hw
  simp only [Value.slice.injEq] at hc
  obtain ⟨rfl, rfl, rfl⟩ := hc
  exact ⟨a, n, cap, l, rfl, by have := hR.2.1; unfold reachBytes at hm; omega, hR⟩
end
theorem Plays_calls {w : World} {s : Int} {ia aa : Option Addr} {n ic an ac : Nat} {S : List UInt8} {acts : List ActV} (HR : Rd w ia n ic 1 (bys S)) (hn2 : n ≤ 140737488355328) (HA : Rd w aa an ac 5 (actCells acts)) (hok : ∀ b ∈ acts, ActFit w b) :
    Calls Try.prog 5 #[.int .i64 s, .slice ia n ic, .slice aa an ac] w (Ret fun v w' => v = .bool true ∧ Ext w w') := by
  rcases Nat.eq_zero_or_pos n with h0 | h0
  · subst h0
    by_cases hb : s < 1 ∨ 4096 < s
    · exact Plays_bad0 hb
    · exact Plays_good HR hn2 HA hok (fun _ => hb) (fun h => absurd h (Nat.lt_irrefl 0))
  · by_cases hb : S.length % 256 ≠ 0 ∨ S.length / 256 < 1 ∨ 4096 < S.length / 256
    · exact Plays_bad1 HR h0 hn2 hb
    · exact Plays_good HR hn2 HA hok (fun h => by omega) (fun _ => hb)
end Go.Sl
