/- The keys of a map of whole numbers, sorted: out of the kit's own contracts. -/
import Derived.Test.YthalgkfafoehkaaDisk5
import Derived.Test.YthalgkfafoehkaaSl10
import Derived.Test.YthalgkfafoehkaaLay
namespace Go.Sl
open Go.Proofs

theorem keys_calls {w : World} {mb : Nat} : Calls Try.prog 51 #[.map (some mb)] w (Ret fun v w' => v = .func (.func 54) #[] #[.pointer (some ⟨w.heap.size, 0, none⟩)] ∧ w' = w.alloc (.cells #[.map (some mb)] 47)) := by
  refine Calls.mono (callsIn_wide.1 (AnyZI.keys_in Try.keysA Fence.wide 5 trivial rfl (some mb) w)) ?_
  rintro e w' ⟨rfl, rfl⟩
  exact ⟨rfl, rfl⟩
theorem sortsA (m : Nat) : AnyZI.SortsIn Try.prog Try.sortedA_ren Fence.wide m :=
  ⟨fun blk off cap ss W hH hblk hsz => callsIn_wide.2 (AnyM.slices_Sort_int Try.sortA blk off cap ss W hH hblk hsz),
   fun p cap W => callsIn_wide.2 (AnyM.slices_Sort_int_none Try.sortA p cap W)⟩
theorem sorted_calls {w : World} {mb p : Nat} {m : List (Int × Value)} (hp : w.cell? ⟨p, 0, none⟩ = some (.map (some mb))) (hpl : p < w.heap.size) (h : MapAt w intF mb m) (hwf : ∀ p ∈ m, (Lit.int .i64 p.1).wf = true) (hl : m.length ≤ 1048576) :
    Calls Try.prog 50 #[.func (.func 54) #[] #[.pointer (some ⟨p, 0, none⟩)]] w (Ret fun v w' => ∃ (a : Option Addr) (cap : Nat) (ks : List Int), v = .slice a ks.length cap ∧ Sat w w' [slo 3 1 a ks.length cap (ks.map intF)] ∧ ks.Pairwise (· < ·) ∧ ∀ k, k ∈ ks ↔ k ∈ m.map (·.1)) := by
  obtain ⟨D0, hown, hperm, hsize⟩ := owns_of_mapAt (P := Try.prog) (K := 3) Try.underlying3 h hwf (by unfold maxLen; omega)
  have hseq : SeqGives Fence.wide 2 Try.prog 54 #[.pointer (some ⟨p, 0, none⟩)] encZ (fun ss => ss.Perm (intKeys D0)) (Maps.size D0) w :=
    AnyZI.keys_gives (ρ := Try.keysA_ren) { Try.keysA with } Fence.wide _ trivial rfl (by omega) p mb _ D0 _ hpl hp hown
  have cS := AnyZI.sorted_in Try.sortedA Fence.wide 5 trivial trivial trivial trivial rfl (by omega) (sortsA _) (enters_of Try.func53 (by kernel_rfl) rfl) 54 #[.pointer (some ⟨p, 0, none⟩)] trivial (enters_of Try.func54 (by kernel_rfl) rfl)
    (fun ss => ss.Perm (intKeys D0)) (Maps.size D0) (by rw [hsize]; unfold maxLen; omega) (by rw [hsize]; omega) w hseq
  refine Calls.mono (callsIn_wide.1 cS) ?_
  rintro e w' ⟨v, ss, rfl, hS, hrow, _, hb⟩
  have hnd : (m.map (·.1)).Nodup := by obtain ⟨es, clock, _, hm⟩ := h; exact hm.nodup
  obtain ⟨h1, h2⟩ := perm_pair (hS.trans hperm) hnd
  obtain ⟨a, cap, hv, hs⟩ := slo_of_owns hrow hb
  refine ⟨a, cap, _, ?_, ?_, h1, h2⟩
  · rw [hv, List.length_mergeSort]
  · rw [List.length_mergeSort]; exact hs
end Go.Sl
