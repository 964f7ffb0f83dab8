/- DiskPlays: small laws for the good road. -/
import Derived.Test.YthalgkfafoehkaaPlays1
namespace Go.Sl
open Go.Proofs
theorem settle_small {σ : Type} {B : Nat} (hB : 1 ≤ B) (step : σ → Nat → Nat × σ) : ∀ (v : List (List Sect)) (s : σ), SmallV B v → SmallV B (settleL step v s).1 := by
  intro v
  induction v with
  | nil => intro s _ l hl; cases hl
  | cons u v ih =>
    intro s h l hl
    unfold settleL at hl
    split at hl
    · rcases List.mem_cons.1 hl with e | e
      · subst e; exact hB
      · exact ih _ (fun l hl => h l (List.mem_cons_of_mem _ hl)) l e
    · rcases List.mem_cons.1 hl with e | e
      · subst e; exact h _ (List.mem_cons_self ..)
      · exact ih _ (fun l hl => h l (List.mem_cons_of_mem _ hl)) l e
theorem SmallV.le {A B : Nat} {v : List (List Sect)} (h : SmallV A v) (hab : A ≤ B) : SmallV B v := fun l hl => Nat.le_trans (h l hl) hab
theorem sync_small {B : Nat} (hB : 1 ≤ B) {x : D} (h : SmallV B x.vals) : SmallV B x.sync.2.vals := by
  unfold D.sync
  split
  · exact settle_small hB _ _ _ (by rw [take_vals]; exact h)
  · show SmallV B x.take.2.vals; rw [take_vals]; exact h
theorem crash_small {B : Nat} (hB : 1 ≤ B) {x : D} (h : SmallV B x.vals) (p : List Int) : SmallV B (x.crash p).vals := settle_small hB _ _ _ h
theorem write_small {B : Nat} {x : D} (h : SmallV B x.vals) (at_ : Int) (b : List UInt8) : SmallV (B + 1) (x.write at_ b).2.vals := by
  have h1 : SmallV (B + 1) x.vals := h.le (Nat.le_succ _)
  unfold D.write
  split
  · exact h1
  · split
    · exact h1
    · split
      · show SmallV (B + 1) x.take.2.vals; rw [take_vals]; exact h1
      · intro l hl
        have hl : l ∈ x.take.2.vals.set at_.toNat (x.take.2.vals.getD at_.toNat [] ++ [b]) := hl
        rw [take_vals] at hl
        rcases List.mem_or_eq_of_mem_set hl with e | e
        · exact h1 l e
        · rw [e, List.length_append, List.length_singleton, List.getD_eq_getElem?_getD]
          cases hv : x.vals[at_.toNat]? with
          | none => simp
          | some u => exact Nat.succ_le_succ (h u (List.mem_of_getElem? hv))
theorem addrAt_sub {a' a : Option Addr} {n k j : Nat} (h : SubOf a' n a k) (h0 : 0 < n) : addrAt a' j = addrAt a (k + j) := by
  obtain ⟨b, off, rfl, rfl⟩ := h h0
  unfold addrAt
  simp only [Option.map_some, Nat.add_assoc]
theorem actCells_take : ∀ (l : List ActV) (k : Nat) (a : ActV), l[k]? = some a → ((actCells l).drop (k * 5)).take 5 = a.cells := by
  intro l
  induction l with
  | nil => intro k a h; simp at h
  | cons b l ih =>
    intro k a h
    have e : actCells (b :: l) = b.cells ++ actCells l := rfl
    rw [e]
    cases k with
    | zero => simp at h; subst h; rfl
    | succ k =>
      rw [show (k + 1) * 5 = b.cells.length + k * 5 by show _ = 5 + k * 5; omega, List.drop_length_add_append]
      exact ih k a (by simpa using h)
theorem image_small {n : Nat} {S : List UInt8} : SmallV 1 (D.ofImage n S).vals := fun l hl => by obtain ⟨b, _, rfl⟩ := List.mem_map.1 hl; exact Nat.le_refl _
theorem Write_rd {w0 w : World} {d : Nat} {x : D} {sh : List Fe} {F : HP} {L : List HP} {i j : Nat} (H : Sat w0 w L) (hi : L[i]? = some (DISK d x sh)) (hj : (L.eraseIdx i)[j]? = some F) (hsh : RO w0 F sh) (at_ : Int) {a : Option Addr} {n cap : Nat} {bs : List UInt8}
    (hR : ∀ w', Sat w0 w' (L.eraseIdx i) → Rd w' a n cap 1 (bys bs)) (hc : ∀ l ∈ x.vals, l.length < 4611686018427387904) :
    Calls Try.prog 12 #[dp d, .int .i64 at_, .slice a n cap] w (Ret fun v w' => v = .int .i64 (x.write at_ bs).1 ∧ Sat w0 w' (L.set i (DISK d (x.write at_ bs).2 sh))) := by
  refine Calls.mono (Write_calls (hsh.inn hj) (H.focus hi) at_ (fun w' H' => hR w' ?_) hc) (Ret.mono fun v w' ⟨e, H'⟩ => ⟨e, H'.unfocus hi⟩)
  have H1 : Sat w0 w' (L.eraseIdx i ++ []) := H'.join
  rwa [List.append_nil] at H1
theorem full_drop (c : UInt8) (k : Nat) : (fullS c).drop k = List.replicate (256 - k) c := by unfold fullS; rw [List.drop_replicate]
theorem full_take (c : UInt8) (k : Nat) (h : k ≤ 256) : (fullS c).take k = List.replicate k c := by unfold fullS; rw [List.take_replicate, Nat.min_eq_left h]
theorem cutAt_zero (a : Option Addr) (cap sz : Nat) : cutAt a cap 0 sz = a := by
  unfold cutAt
  split
  · rfl
  · rw [Nat.zero_mul]
    cases a with
    | none => rfl
    | some p => rfl
theorem x_sliceTo {P : Program} {ρ : Fr} {w : World} {ty t e sz bytes : Nat} {x hi : Operand} {k2 : IntKind} {a : Option Addr} {m n cap : Nat} (ht : SlT P t e sz bytes) (hx : ev ρ x = .slice a n cap) (hhi : ev ρ hi = .int k2 m) (h2 : m ≤ n) (hc : n ≤ cap) :
    Ev1 P (.slice t x none (some hi) none) ty ρ w (.slice a m cap) w := by
  have h := x_sliceHi (ty := ty) (w := w) ht hx hhi (by omega) (by omega) hc
  rw [cutAt_zero, Int.toNat_natCast] at h
  exact h
theorem read_le {x : D} (h : x.Ok) (at_ : Int) : (x.read at_).2.length ≤ 256 := by
  unfold D.read
  split
  · exact Nat.zero_le _
  · split
    · exact Nat.zero_le _
    · obtain ⟨l, _, _, h3⟩ := D.latest_at h (i := at_.toNat) (by omega)
      exact Nat.le_of_eq h3
theorem HoldD.ok {w : World} {d : Nat} {x : D} (h : HoldD w d x) : x.Ok := by
  obtain ⟨a, cap, fb, mb, mm, ff, R⟩ := DISK.read h
  exact R.ok
/-- An act's picks, of a size that a process can hold. -/
def ActFit (W : World) (b : ActV) : Prop := b.pc ≤ 17592186044416 ∧ b.n ≤ 9223372036854775807 ∧ ∃ picks : List Int, Rd W b.pa b.pn b.pc 1 (picks.map intF)
theorem x_neq_same {P : Program} {ρ : Fr} {w : World} {ty t yt : TypeId} {x y : Operand} {k : IntKind} {a : Int} (hx : ev ρ x = .int k a) (hy : ev ρ y = .int k a) : Ev1 P (.binOp .neq t x y yt) ty ρ w (.bool false) w := by
  have h := x_neq (P := P) (ty := ty) (w := w) (t := t) (yt := yt) hx hy
  rwa [decide_eq_false (fun h => h rfl)] at h
end Go.Sl
