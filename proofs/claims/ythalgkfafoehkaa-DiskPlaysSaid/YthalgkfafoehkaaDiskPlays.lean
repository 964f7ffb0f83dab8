/- DiskPlays: a disk answers whatever is written, synced, read, limited and crashed, as the document says, and so does a clone: the law returns true, for every input. (The shell is the kit's proof-skeleton's, turned to these arguments.) -/
import Derived.Test.YthalgkfafoehkaaRows
import Derived.Test.YthalgkfafoehkaaDisk18
import Derived.WalkKit
import Derived.ProofKit
import Derived.OpenShut
import Derived.SizedLaws
namespace Go.Proofs.Ythalgkfafoehkaa.diskPlays
open Go.ChangeShapes Go.WideShapes Go.ChangeAt Go.RowKit
set_option linter.unusedVariables false

theorem own : ownKnob Try.prog.godebug = none := by kernel_rfl
theorem laid : laidOutB Try.prog = true := by kernel_rfl
theorem walk (a0 : Int) (ia : Option Addr) (n ic : Nat) (S : List UInt8) (a : Option Addr) (an cap : Nat) (acts : List Go.Sl.ActV) (w : World) (HR : Go.Sl.Rd w ia n ic 1 (Go.Sl.bys S)) (hn : n ≤ 140737488355328) (HA : Go.Sl.Rd w a an cap 5 (Go.Sl.actCells acts)) (hok : ∀ b ∈ acts, Go.Sl.ActFit w b) :
    Calls Try.prog 5 #[.int .i64 a0, .slice ia n ic, .slice a an cap] w fun e w' => e = .returned (.bool true) ∧ Go.Sl.Ext w w' := by
  refine Calls.mono (Go.Sl.Plays_calls HR hn HA hok) fun e w' h => ?_
  cases e with
  | returned v => obtain ⟨h1, h2⟩ := h; exact ⟨by rw [h1], h2⟩
  | panicked _ => exact h.elim
  | outgrown => exact h.elim

set_option maxRecDepth 100000 in
theorem lifted (os : Os) (started : os.Started) (H : Type) (enc : TypeId × Value → H) :
    ReturnsInHanded {} Try.checked os 5 .any (Rows.diskPlaysSpec.pre6 enc Try.prog Try.f5 Rows.diskPlaysRow.domain false) (Rows.diskPlaysSpec.post enc Try.prog Try.f5 false true false false) := by
  refine returnsInHanded_of_change_sized (C := Try.checked) own started (by kernel_rfl) Try.func5
    (ChangeSpec.witness6 (enc := enc) (C := Try.checked) false ⟨#[], #[.int .i64 0, .slice none 0 0, .slice none 0 0], []⟩ 8 (by kernel_rfl) (by kernel_rfl) (by kernel_rfl) (by kernel_rfl)) ?_
  intro W base args ds gs before hval0 hW hcnd hsz0 _
  have hval : ∀ (j : Nat) t v, Try.f5.params[j]? = some t → args[j]? = some v → Value.okWide Try.prog W .any base t v := hval0
  have hW' := hW
  obtain ⟨p, q, hA0, hV, rfl, hfz, hnd⟩ := hW
  have hA : DataW.TrodAll enc Try.prog W 0 (fun _ => true) true Try.f5.params.toList args.toList ds p := hA0
  rw [Try.params5] at hA hval
  obtain ⟨v0, vs0, d0, ds0, p0, q0, hargs, rfl, rfl, h0, r0⟩ := trodAll_cons hA
  obtain ⟨v1, vs1, d1, ds1, p1, q1, rfl, rfl, rfl, h1, r1⟩ := trodAll_cons r0
  obtain ⟨v2, vs2, d2, ds2, p2, q2, rfl, rfl, rfl, h2, r2⟩ := trodAll_cons r1
  obtain ⟨rfl, rfl, rfl⟩ := trodAll_nil r2
  obtain rfl : args = #[v0, v1, v2] := by cases args; simp_all
  obtain ⟨rfl, rfl⟩ := trodVars_none hV
  obtain ⟨a0, rfl, rfl, rfl, w0⟩ := open_int Try.underlying3 (hval 0 3 v0 rfl rfl) h0
  have hsz : (DataW.weightsEach Try.prog [3, 37, 22] [_, d1, d2]).all (· ≤ reachBytes) = true := hsz0
  obtain ⟨ia, n, ic, S, rfl, hn, hS⟩ := Go.Sl.open_imageF (hval 1 37 v1 rfl rfl) h1 (Go.Sl.Fit.of hsz (j := 1) rfl rfl)
  obtain ⟨a, an, cap, acts, rfl, hm, hR, hok⟩ := Go.Sl.open_actsF (hval 2 22 v2 rfl rfl) h2 (Go.Sl.Fit.of hsz (j := 2) rfl rfl)
  clear hA0 hval0
  simp only [List.append_nil, List.nil_append] at hW'
  have hlt : ∀ x ∈ p1 ++ p2, x.block < W.heap.size := fun x hx => hW'.lt x hx
  refine (walk a0 ia n ic S a an cap acts W hS hn hR hok).mono fun e W' ⟨he, hg⟩ => ?_
  subst he
  exact ⟨_, rfl, Go.Sl.post_of_ext (pa := [] ++ (p1 ++ (p2 ++ []))) (pv := []) hW' (fun _ _ _ => (trodAll_cons_mk (shut_bool Try.underlying4 _) trodAll_mk0))
    (fun sp hsp => (trodAll_cons_mk (shut_int Try.underlying3 w0) (trodAll_cons_mk (Go.Sl.Ext.trod laid (by kernel_rfl) (of_decide_eq_true (by kernel_rfl)) h1 hg (fun x hx => hlt x (List.mem_append_left _ hx)) (fun x hx => hsp x (List.mem_append_left _ hx))) (trodAll_cons_mk (Go.Sl.Ext.trod laid (by kernel_rfl) (of_decide_eq_true (by kernel_rfl)) h2 hg (fun x hx => hlt x (List.mem_append_right _ hx)) (fun x hx => hsp x (List.mem_append_right _ hx))) trodAll_mk0))))
    (fun _ _ => rfl) (by simp) hg (ok_one (by kernel_rfl) rfl (okWide_bool_mk Try.underlying4 _))⟩

theorem over : Rows.diskPlaysRow.holds Try.pinned (OpenSpec.ofChange Rows.diskPlaysSpec) :=
  OpenClaim.holds_of_wide 5 Try.f5 rfl rfl rfl rfl rfl rfl rfl ⟨rfl, rfl, rfl, rfl, rfl⟩ rfl rfl rfl rfl rfl (by kernel_rfl) Try.func5 (by kernel_rfl)
    (of_decide_eq_true (by kernel_rfl)) (by unfold Func.isWrapper; first | (rw [if_pos (by decide +kernel)]; kernel_rfl) | (rw [if_neg (by decide +kernel)]; exact ⟨rfl, rfl⟩))
    (fun os started H enc _ => lifted os started H enc)

theorem proved : Rows.DiskPlaysSaid :=
  over
#print axioms proved
end Go.Proofs.Ythalgkfafoehkaa.diskPlays
