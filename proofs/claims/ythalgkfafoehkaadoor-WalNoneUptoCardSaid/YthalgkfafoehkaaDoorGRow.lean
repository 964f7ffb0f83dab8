/- Several texts of this proof in one. -/
import Derived.Test.YthalgkfafoehkaaDoorGWalB
import Derived.Test.YthalgkfafoehkaaDoorGSlB
import Derived.Test.YthalgkfafoehkaaDoorTie
import Derived.LaidLaws
import Derived.Lib.LaidTab
/- What the rows of the log's laws share: the table of half bytes as the row lists it; arguments as they are handed in. -/
namespace Go.Sl
open Go.Proofs Go.ChangeShapes Go.WideShapes Go.RowKit Go.Deep Go.Proofs.YthalgkfafoehkaaDoor

theorem gHalf : Tryd.prog.globalNamed "sutler/crc.half" = some 0 := by kernel_rfl
theorem gHalfType : (Tryd.prog.globals[0]?).map (·.type) = some 132 := by kernel_rfl
def halfZ : List Int := [0, 498536548, 997073096, 651767980, 1994146192, 1802195444, 1303535960, 1342533948, 3988292384, 4027552580, 3604390888, 3412177804, 2607071920, 2262029012, 2685067896, 3183342108]
/-- What the row's list gives. -/
theorem half_of {W : World} (h : laidMetH Tryd.prog [("sutler/crc.half", Rows.laid_sutler_crc_half)] W) : Half W := fun i hi => by
  have ht : Lib.TabIs Tryd.prog W "sutler/crc.half" .u32 halfZ := Lib.tabIs_of_head (rest := []) (n := 16) gHalf gHalfType Tryd.underlying132 Tryd.underlying100 (by kernel_rfl) (by kernel_rfl) h
  have hc := ht.cell gHalf i hi
  have e : ∀ j, j < 16 → halfZ.getD j 0 = ((halfT.getD j 0).toNat : Int) := by decide
  rw [e i hi] at hc
  exact hc
/-- A world whose table is as it is laid: for a row's witness. -/
noncomputable def laidWorld (os : Os) : World :=
  { World.holding Tryd.prog os ⟨#[], #[], []⟩ with heap := (World.holding Tryd.prog os ⟨#[], #[], []⟩).heap.modify 0 fun
      | .cells _ t frozen => .cells (halfZ.map (Value.int .u32)).toArray t frozen
      | o => o }
theorem laid_met (os : Os) (args : Array Value) : laidMet Tryd.prog [("sutler/crc.half", Rows.laid_sutler_crc_half)] ((laidWorld os).forCall (fun _ _ => 0) ⟨#[], args, []⟩).memory :=
  laidMet_of_run' 20 (by kernel_rfl) (by kernel_rfl)
section
variable {H : Type} {enc : TypeId × Value → H} {W : World}
theorem by1_of {z : Int} (hw : (Lit.int .u8 z).wf = true) : Value.int .u8 z = by1 (UInt8.ofNat z.toNat) := by
  have h5 : IntKind.min .u8 = 0 := by decide
  have h6 : IntKind.max .u8 = 255 := by decide
  simp only [Lit.wf, Bool.and_eq_true, decide_eq_true_eq, h5, h6] at hw
  have e : ((UInt8.ofNat z.toNat).toNat : Int) = z := by
    rw [UInt8.toNat_ofNat_of_lt' (by show z.toNat < 256; omega)]; omega
  unfold by1
  rw [e]
set_option maxRecDepth 100000 in
theorem open_listF {r : Reach} {b0 : Nat} {v : Value} {d : DataW H} {ps : List MemPlace} (hval : Value.okWide Tryd.prog W r b0 22 v) (h : DataW.Trod enc Tryd.prog W 0 (fun _ => true) true 22 v d ps) (hw : Fit Tryd.prog 22 d) :
    ∃ (a : Option Addr) (n cap : Nat) (l : List Int), v = .slice a n cap ∧ n ≤ 17592186044416 ∧ Rd W a n cap 1 (l.map intF) := by
  obtain ⟨a, n, cap, rfl⟩ := okWide_slice Tryd.underlying22 hval
  obtain ⟨fuel, hf⟩ := h
  obtain ⟨a', n', cap', l, hc, hm, hR, _⟩ := open_intsF Tryd.underlying22 Tryd.underlying3 (by kernel_rfl) (by kernel_rfl) hf hw
  simp only [Value.slice.injEq] at hc
  obtain ⟨rfl, rfl, rfl⟩ := hc
  exact ⟨a, n, cap, l, rfl, by have := hR.2.1; unfold reachBytes at hm; omega, hR⟩
/-- A cut: how many operations go, and what is left. -/
structure CutV where
  n : Int
  a : Option Addr
  k : Nat
  cap : Nat
  picks : List Int
instance : Inhabited CutV := ⟨⟨0, none, 0, 0, []⟩⟩
def CutV.cells (c : CutV) : List Value := [.int .i64 c.n, .slice c.a c.k c.cap]
def CutFit (W : World) (c : CutV) : Prop := Rd W c.a c.k c.cap 1 (c.picks.map intF)
def cutCells (l : List CutV) : List Value := l.flatMap CutV.cells
theorem open_cutF {fuel : Nat} {r : List Value} {x : DataW H × List MemPlace} (hl : r.length = 2) (h : DataW.trod enc Tryd.prog W 0 (fun _ => true) true fuel 51 r = some x) (hw : Fit Tryd.prog 51 x.1) : ∃ b : CutV, r = b.cells ∧ CutFit W b := by
  match r, hl with
  | [c0, c1], hl =>
    obtain ⟨n, hg⟩ := open_structF Tryd.underlying51 (by kernel_rfl) hl h hw
    obtain ⟨y0, h0, _⟩ := hg 0 _ c0 rfl rfl
    obtain ⟨y1, h1, f1⟩ := hg 1 _ c1 rfl rfl
    obtain ⟨z0, e0, _, _⟩ := DataW.trod_int Tryd.underlying3 h0
    obtain ⟨a, k, cap, l, e1, hm, hR, _⟩ := open_intsF Tryd.underlying22 Tryd.underlying3 (by kernel_rfl) (by kernel_rfl) h1 f1
    simp only [List.cons.injEq, and_true] at e0
    subst e0 e1
    exact ⟨⟨z0, a, k, cap, l⟩, rfl, hR⟩
set_option maxRecDepth 100000 in
theorem open_cut {r : Reach} {b0 : Nat} {v : Value} {d : DataW H} {ps : List MemPlace} (hval : Value.okWide Tryd.prog W r b0 51 v) (h : DataW.Trod enc Tryd.prog W 0 (fun _ => true) true 51 v d ps) (hw : Fit Tryd.prog 51 d) :
    ∃ b : CutV, v = .agg b.cells.toArray ∧ CutFit W b := by
  obtain ⟨cs, rfl, hsz⟩ := okWide_struct Tryd.underlying51 hval
  obtain ⟨fuel, hf⟩ := h
  obtain ⟨b, hb, hfit⟩ := open_cutF (by rw [Array.length_toList]; show cs.size = 2; rw [hsz]; kernel_rfl) hf hw
  have hb : cs.toList = b.cells := hb
  exact ⟨b, by rw [← hb], hfit⟩
set_option maxRecDepth 100000 in
theorem open_cutsF {r : Reach} {b0 : Nat} {v : Value} {d : DataW H} {ps : List MemPlace} (hval : Value.okWide Tryd.prog W r b0 39 v) (h : DataW.Trod enc Tryd.prog W 0 (fun _ => true) true 39 v d ps) (hw : Fit Tryd.prog 39 d) :
    ∃ (a : Option Addr) (n cap : Nat) (cuts : List CutV), v = .slice a n cap ∧ n ≤ maxLen ∧ Rd W a n cap 2 (cutCells cuts) ∧ ∀ b ∈ cuts, CutFit W b := by
  obtain ⟨a, n, cap, rfl⟩ := okWide_slice Tryd.underlying39 hval
  obtain ⟨fuel, hf⟩ := h
  obtain ⟨a', n', cap', rows, hc, hm, hbb, hrl, hr1, hR, hall⟩ := open_rowF (P := Tryd.prog) (e := 51) Tryd.underlying39 (sz := 2) (by kernel_rfl) (by decide) hf hw
  have hc2 : (Value.slice a n cap).cells.toList = [.slice a n cap] := rfl
  rw [hc2] at hc
  simp only [List.cons.injEq, Value.slice.injEq, and_true] at hc
  obtain ⟨rfl, rfl, rfl⟩ := hc
  have key : ∀ rows : List (List Value), (∀ r ∈ rows, r.length = 2) → (∀ r ∈ rows, ∃ (fuel : Nat) (x : DataW H × List MemPlace), DataW.trod enc Tryd.prog W 0 (fun _ => true) true fuel 51 r = some x ∧ Fit Tryd.prog 51 x.1) →
      ∃ l : List CutV, rows.flatten = cutCells l ∧ ∀ b ∈ l, CutFit W b := by
    intro rows
    induction rows with
    | nil => intro _ _; exact ⟨[], rfl, fun b hb => by cases hb⟩
    | cons r rows ih =>
      intro h1 h2
      obtain ⟨l, hl, hok⟩ := ih (fun q hq => h1 q (List.mem_cons_of_mem _ hq)) (fun q hq => h2 q (List.mem_cons_of_mem _ hq))
      obtain ⟨fuel, x, hx, hxf⟩ := h2 r (List.mem_cons_self ..)
      obtain ⟨b, rfl, hb⟩ := open_cutF (h1 r (List.mem_cons_self ..)) hx hxf
      refine ⟨b :: l, by rw [List.flatten_cons, hl]; rfl, fun c hc => ?_⟩
      rcases List.mem_cons.1 hc with rfl | hc
      · exact hb
      · exact hok c hc
  obtain ⟨l, hl, hok⟩ := key rows hr1 hall
  rw [hl] at hR
  exact ⟨a, n, cap, l, rfl, Nat.le_trans hR.2.1 hm, hR, hok⟩
end
end Go.Sl
