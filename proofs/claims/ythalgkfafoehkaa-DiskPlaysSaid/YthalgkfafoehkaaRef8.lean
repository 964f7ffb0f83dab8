/- The document's own disk: Load. -/
import Derived.Test.YthalgkfafoehkaaRef7
namespace Go.Sl
open Go.Proofs

def mixS (C : List Sect) (n k : Nat) : List Sect := C.take k ++ List.replicate (n - k) zsect
theorem mixS_len {C : List Sect} {n k : Nat} (hC : C.length = n) (hk : k ≤ n) : (mixS C n k).length = n := by
  unfold mixS; rw [List.length_append, List.length_take, List.length_replicate]; omega
theorem mixS_set {C : List Sect} {n k : Nat} (hC : C.length = n) (hk : k < n) {c : Sect} (hc : C[k]? = some c) : (mixS C n k).set k c = mixS C n (k + 1) := by
  unfold mixS
  rw [List.set_append_right _ _ (by rw [List.length_take]; omega), List.length_take, Nat.min_eq_left (by omega), Nat.sub_self, take_snoc _ _ hc]
  obtain ⟨m, hm⟩ : ∃ m, n - k = m + 1 := ⟨n - k - 1, by omega⟩
  rw [hm, List.replicate_succ, List.set_cons_zero, show n - (k + 1) = m by omega, List.append_assoc]; rfl
theorem chunks_get : ∀ (n : Nat) (S : List UInt8) (k : Nat), k < n → (chunks n S)[k]? = some ((S.drop (k * 256)).take 256) := by
  intro n
  induction n with
  | zero => intro S k h; omega
  | succ n ih =>
    intro S k hk
    rw [chunks]
    cases k with
    | zero => simp
    | succ k =>
      rw [List.getElem?_cons_succ, ih _ _ (by omega), List.drop_drop, show (k + 1) * 256 = 256 + k * 256 by omega]
theorem REF.putNew {w0 w : World} {y : Nat} {x : D} {va : Option Addr} {vc i : Nat} {rows : List Rw} {pool : List Fe} {r : Rw} {b cap7 : Nat} {a7 : Option Addr} {bs : Sect} {v : List (List Sect)} (hok : D.Ok { x with vals := v }) (hv : rows.map (fun r => r.es.map Fe.bs) = x.vals) (hp : ∀ r ∈ rows, ∀ e ∈ r.es, e ∈ pool)
    (hr : rows[i]? = some r) (hset : x.vals.set i [bs] = v)
    (H : Sat w0 w [blk y (.cells #[.slice va x.vals.length vc, .int .i64 x.left, .bool x.off, .int .i64 x.taken] 61 (0, 0)), slo 72 1 va x.vals.length vc ((rows.map Rw.val).set i (.slice (some ⟨b, 0, none⟩) 1 1)), stars (rows.map Rw.own), stars (pool.map Fe.own),
      slo 5 1 a7 256 cap7 (bys bs), slo 37 1 (some ⟨b, 0, none⟩) 1 1 [.slice a7 256 cap7]]) : Sat w0 w [REF y { x with vals := v }] := by
  obtain ⟨e, he⟩ : ∃ e : Fe, e = Fe.mk 0 0 a7 cap7 bs := ⟨_, rfl⟩
  obtain ⟨q, hq⟩ : ∃ q : Rw, q = Rw.mk (some ⟨b, 0, none⟩) 1 [e] := ⟨_, rfl⟩
  have hri : (rows.map Rw.own)[i]? = some r.own := by rw [List.getElem?_map, hr]; rfl
  have H2 := Sat.swapIn (L := [_, _, stars (rows.map Rw.own), _, _]) (i := 2) (k := i) (q := q.own) (by rw [hq, he]; exact H) rfl hri
  simp only [List.set_cons_zero, List.set_cons_succ] at H2
  have H3 := Sat.absorb (L := [_, _, _, stars (pool.map Fe.own)]) (i := 3) (p := e.own) (by rw [he]; exact H2) rfl
  simp only [List.set_cons_zero, List.set_cons_succ] at H3
  have hrows : (rows.set i q).map (fun r => r.es.map Fe.bs) = v := by
    rw [List.map_set, hv, ← hset, hq, he]; rfl
  have hpool : ∀ r' ∈ rows.set i q, ∀ e' ∈ r'.es, e' ∈ pool ++ [e] := fun r' hr' e' he' => by
    rcases List.mem_or_eq_of_mem_set hr' with h | h
    · exact List.mem_append_left _ (hp r' h e' he')
    · rw [h, hq] at he'
      exact List.mem_append_right _ he'
  refine REF.closeL (L := []) (x := { x with vals := v }) hok hrows hpool (va := va) (vc := vc) ?_
  unfold rlist
  have hl : v.length = x.vals.length := by rw [← hset, List.length_set]
  have hsl : (rows.map Rw.val).set i (.slice (some ⟨b, 0, none⟩) 1 1) = (rows.set i q).map Rw.val := by rw [List.map_set, hq]; rfl
  rw [show (D.mk v x.left x.off x.taken).vals.length = x.vals.length from hl, ← hsl, List.map_set (f := Rw.own), List.map_append (f := Fe.own)]
  exact H3
end Go.Sl
