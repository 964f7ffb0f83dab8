/- The document's own disk among other things. -/
import Derived.Test.YthalgkfafoehkaaRef9
namespace Go.Sl
open Go.Proofs
section
variable {w0 w : World} {y : Nat} {x : D} {L : List HP}
theorem rWrite_at {i : Nat} (H : Sat w0 w L) (hi : L[i]? = some (REF y x)) (at_ : Int) {a : Option Addr} {n cap : Nat} {bs : List UInt8}
    (hR : ∀ w', Sat w0 w' (L.eraseIdx i) → Rd w' a n cap 1 (bys bs)) (hc : ∀ l ∈ x.vals, l.length < 1000000000) :
    Calls Try.prog 27 #[dp y, .int .i64 at_, .slice a n cap] w (Ret fun v w' => v = .int .i64 (x.write at_ bs).1 ∧ Sat w0 w' (L.set i (REF y (x.write at_ bs).2))) := by
  refine Calls.mono (rWrite_calls (H.focus hi) at_ (fun w' H' => hR w' ?_) hc) (Ret.mono fun v w' ⟨e, H'⟩ => ⟨e, H'.unfocus hi⟩)
  have H1 : Sat w0 w' (L.eraseIdx i ++ []) := H'.join
  rwa [List.append_nil] at H1
theorem rSync_at {i : Nat} (H : Sat w0 w L) (hi : L[i]? = some (REF y x)) :
    Calls Try.prog 28 #[dp y] w (Ret fun v w' => v = .int .i64 x.sync.1 ∧ Sat w0 w' (L.set i (REF y x.sync.2))) :=
  Calls.mono (rSync_calls (H.focus hi)) (Ret.mono fun v w' ⟨e, H'⟩ => ⟨e, H'.unfocus hi⟩)
theorem rLimit_at {i : Nat} (H : Sat w0 w L) (hi : L[i]? = some (REF y x)) (n : Int) (hn : n ≤ 9223372036854775807) :
    Calls Try.prog 30 #[dp y, .int .i64 n] w (Ret fun v w' => v = .tuple #[] ∧ Sat w0 w' (L.set i (REF y (x.limit n)))) :=
  Calls.mono (rLimit_calls (H.focus hi) n hn) (Ret.mono fun v w' ⟨e, H'⟩ => ⟨e, H'.unfocus hi⟩)
theorem rCrash_at {i : Nat} (H : Sat w0 w L) (hi : L[i]? = some (REF y x)) {pa : Option Addr} {pn pc : Nat} {picks : List Int} (hR : ∀ w', Ext w0 w' → Rd w' pa pn pc 1 (picks.map intF)) (hpc : pc ≤ 4611686018427387904) :
    Calls Try.prog 32 #[dp y, .slice pa pn pc] w (Ret fun v w' => v = .tuple #[] ∧ Sat w0 w' (L.set i (REF y (x.crash picks)))) :=
  Calls.mono (rCrash_calls (fun w' H' => hR w' H'.ext) hpc (H.focus hi)) (Ret.mono fun v w' ⟨e, H'⟩ => ⟨e, H'.unfocus hi⟩)
end
end Go.Sl
