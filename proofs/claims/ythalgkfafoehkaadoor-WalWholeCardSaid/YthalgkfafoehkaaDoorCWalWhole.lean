/- WalWhole: the law returns true, for every input that its row speaks of; the card. (The shell is that of the kit's UptoLaidToy, turned to these arguments; printed by wip/tools/rowcard.py.) -/
import Derived.Test.YthalgkfafoehkaaDoorCards
import Derived.Test.YthalgkfafoehkaaDoorGRow
import Derived.Test.YthalgkfafoehkaaDoorGWalC
import Derived.WalkKit
import Derived.ProofKit
import Derived.OpenShut
import Derived.SevenTiedAt
import Derived.Deep.DeepHandedRow
namespace Go.Proofs.YthalgkfafoehkaaDoor.walWhole
open Go.ChangeShapes Go.WideShapes Go.ChangeAt Go.RowKit
set_option linter.unusedVariables false

theorem own : ownKnob Tryd.prog.godebug = none := by kernel_rfl
theorem laid : laidOutB Tryd.prog = true := by kernel_rfl
theorem walk (a0 : Int) (ia1 : Option Addr) (n1 ic1 : Nat) (l1 : List Int) (c2 : UInt8) (ca3 : Option Addr) (cn3 cc3 : Nat) (cs3 : List Go.Sl.CutV) (w : World) (hh : Go.Sl.Half w) (HI1 : Go.Sl.Rd w ia1 n1 ic1 1 (l1.map Go.Sl.intF)) (hn1 : n1 ≤ 17592186044416) (HC3 : Go.Sl.Rd w ca3 cn3 cc3 2 (Go.Sl.cutCells cs3)) (hm3 : cn3 ≤ 9223372036854775807) (hb3 : ∀ b ∈ cs3, Go.Sl.CutFit w b) :
    Calls Tryd.prog 4 #[.int .i64 a0, .slice ia1 n1 ic1, Go.Sl.by1 c2, .slice ca3 cn3 cc3] w fun e w' => e = .returned (.bool true) ∧ Go.Sl.Ext w w' := by
  refine Calls.mono (Go.Sl.WalWhole_calls hh a0 HI1 (by omega) c2 HC3 hm3 hb3) fun e w' h => ?_
  cases e with
  | returned v => obtain ⟨h1, h2⟩ := h; exact ⟨by rw [h1], h2⟩
  | panicked _ => exact h.elim
  | outgrown => exact h.elim
def args0 : Array Value := #[.int .i64 0, .slice none 0 0, .int .u8 0, .slice none 0 0]
theorem reads (os : Os) {H : Type} (enc : TypeId × Value → H) : ∃ places, DataW.whole enc Tryd.prog ((Go.Sl.laidWorld os).forCall (fun _ _ => 0) ⟨#[], args0, []⟩).memory Tryd.f4.params.toList Rows.walWholeSpec.vars false args0.toList 8 = some ([.lit (.int .i64 0), .nil, .lit (.int .u8 0), .nil], [], places) :=
  ⟨[], by kernel_rfl⟩

set_option maxRecDepth 100000 in
theorem lifted (os : Os) (started : os.Started) (H : Type) (enc : TypeId × Value → H) (F : Stop.Interp) :
    ReturnsInHanded {} Tryd.checked os 4 .any ((OpenSpec.ofChange Rows.walWholeSpec).preRow enc Tryd.prog Tryd.f4 Rows.walWholeRow.domain false Rows.walWholeRow.laid) (((OpenSpec.ofChange Rows.walWholeSpec).at F).post enc Tryd.prog Tryd.f4 false true false false) := by
  obtain ⟨places, hx⟩ := reads os enc
  refine returnsInHanded_of_row (C := Tryd.checked) (s := OpenSpec.ofChange Rows.walWholeSpec) own started (by kernel_rfl) Tryd.func4
    (witness_row_at (enc := enc) (C := Tryd.checked) false (Go.Sl.laidWorld os) args0 rfl (by kernel_rfl) (by kernel_rfl) (by kernel_rfl)
      (OpenSpec.preRow_of_cond 8 hx (by kernel_rfl) (fun k hk => by cases hk) (by kernel_rfl) (Go.Sl.laid_met os args0))) ?_
  intro W base args ds gs before hval0 hW _ hcond hsz0 hL _ _
  have hval : ∀ (j : Nat) t v, Tryd.f4.params[j]? = some t → args[j]? = some v → Value.okWide Tryd.prog W .any base t v := hval0
  have hW' := hW
  obtain ⟨p, q, hA0, hV, rfl, hfz, hnd⟩ := hW
  have hA : DataW.TrodAll enc Tryd.prog W 0 (fun _ => true) true Tryd.f4.params.toList args.toList ds p := hA0
  rw [Tryd.params4] at hA hval
  obtain ⟨v0, vs0, d0, ds0, p0, q0, hargs, rfl, rfl, h0, r0⟩ := trodAll_cons hA
  obtain ⟨v1, vs1, d1, ds1, p1, q1, rfl, rfl, rfl, h1, r1⟩ := trodAll_cons r0
  obtain ⟨v2, vs2, d2, ds2, p2, q2, rfl, rfl, rfl, h2, r2⟩ := trodAll_cons r1
  obtain ⟨v3, vs3, d3, ds3, p3, q3, rfl, rfl, rfl, h3, r3⟩ := trodAll_cons r2
  obtain ⟨rfl, rfl, rfl⟩ := trodAll_nil r3
  obtain rfl : args = #[v0, v1, v2, v3] := by cases args; simp_all
  obtain ⟨rfl, rfl⟩ := trodVars_none hV
  obtain ⟨a0, rfl, rfl, rfl, w0⟩ := open_int Tryd.underlying3 (hval 0 3 v0 rfl rfl) h0
  obtain ⟨a2, rfl, rfl, rfl, w2⟩ := open_int Tryd.underlying5 (hval 2 5 v2 rfl rfl) h2
  have hsz : (DataW.weightsEach Tryd.prog [3, 22, 5, 39] [_, d1, _, d3]).all (· ≤ reachBytes) = true := hsz0
  obtain ⟨ia1, n1, ic1, l1, rfl, hn1, hI1⟩ := Go.Sl.open_listF (hval 1 22 v1 rfl rfl) h1 (Go.Sl.Fit.of hsz (j := 1) rfl rfl)
  obtain ⟨ca3, cn3, cc3, cs3, rfl, hm3, hC3, hb3⟩ := Go.Sl.open_cutsF (hval 3 39 v3 rfl rfl) h3 (Go.Sl.Fit.of hsz (j := 3) rfl rfl)
  clear hA0 hval0
  simp only [List.append_nil, List.nil_append] at hW'
  have hlt : ∀ x ∈ p1 ++ p3, x.block < W.heap.size := fun x hx => hW'.lt x hx
  have hwk := walk a0 ia1 n1 ic1 l1 (UInt8.ofNat a2.toNat) ca3 cn3 cc3 cs3 W (Go.Sl.half_of hL) hI1 hn1 hC3 hm3 hb3
  rw [← Go.Sl.by1_of w2] at hwk
  refine hwk.mono fun e W' ⟨he, hg⟩ => ?_
  subst he
  exact ⟨_, rfl, Go.Sl.post_of_ext (pa := [] ++ (p1 ++ ([] ++ (p3 ++ [])))) (pv := []) hW' (fun _ _ _ => (trodAll_cons_mk (shut_bool Tryd.underlying4 _) trodAll_mk0))
    (fun sp hsp => (trodAll_cons_mk (shut_int Tryd.underlying3 w0) (trodAll_cons_mk (Go.Sl.Ext.trod laid (by kernel_rfl) (of_decide_eq_true (by kernel_rfl)) h1 hg (fun x hx => hlt x (List.mem_append_left _ hx)) (fun x hx => hsp x (List.mem_append_left _ hx))) (trodAll_cons_mk (shut_int Tryd.underlying5 w2) (trodAll_cons_mk (Go.Sl.Ext.trod laid (by kernel_rfl) (of_decide_eq_true (by kernel_rfl)) h3 hg (fun x hx => hlt x (List.mem_append_right _ hx)) (fun x hx => hsp x (List.mem_append_right _ hx))) trodAll_mk0)))))
    (fun _ _ => rfl) (by simp) hg (ok_one (by kernel_rfl) rfl (okWide_bool_mk Tryd.underlying4 _))⟩

theorem over : Rows.WalWholeSaid :=
  OpenClaim.holds_of_cond 4 Tryd.f4 rfl rfl rfl rfl rfl rfl rfl ⟨rfl, rfl, rfl, rfl, rfl⟩ rfl rfl rfl rfl rfl (by kernel_rfl) Tryd.func4 (by kernel_rfl)
    (of_decide_eq_true (by kernel_rfl)) (by unfold Func.isWrapper; first | (rw [if_pos (by decide +kernel)]; kernel_rfl) | (rw [if_neg (by decide +kernel)]; exact ⟨rfl, rfl⟩))
    (fun os started H enc _ F => by rw [OpenClaim.pre_eq_preRow]; exact lifted os started H enc F)

theorem plain (f : FuncId) (fn : Func) (hf : Tryd.pinned.checked.prog.funcNamed "sutler/sutlerlaw04.WalWhole" = some f) (hfn : Tryd.pinned.checked.prog.funcs[f]? = some fn) :
    false = Tryd.pinned.checked.prog.looks [] ∧ ∀ (j : Nat) t, fn.params[j]? = some t → Tryd.pinned.checked.prog.wantsStandIn t = false := by
  obtain rfl : f = 4 := Option.some.inj ((show Tryd.prog.funcNamed "sutler/sutlerlaw04.WalWhole" = some 4 by kernel_rfl).symm.trans hf) |>.symm
  obtain rfl : fn = Tryd.f4 := (Option.some.inj (Tryd.func4.symm.trans hfn)).symm
  refine ⟨by kernel_rfl, fun j t ht => ?_⟩
  rw [Tryd.params4] at ht
  have hm : t ∈ [3, 22, 5, 39] := by simpa using Array.mem_of_getElem? ht
  have hall : ([3, 22, 5, 39].all fun u => !Tryd.prog.wantsStandIn u) = true := by kernel_rfl
  exact (show Tryd.prog.wantsStandIn t = false by simpa using List.all_eq_true.1 hall t hm)

theorem proved : Rows.WalWholeCardSaid :=
  Claim7.holds_tied_plain_at .later [] _ _ _ _ over (fun _ h => by cases h) (by kernel_rfl) (fun _ h => by cases h) walWhole_row_tie rfl ⟨rfl, rfl⟩ (by kernel_rfl) rfl plain (by kernel_rfl)
#print axioms proved
end Go.Proofs.YthalgkfafoehkaaDoor.walWhole
