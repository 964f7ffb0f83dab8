/- The disk: Clone. -/
import Derived.Test.YthalgkfafoehkaaDisk8
namespace Go.Sl
open Go.Proofs

theorem cloneMany_calls {w : World} {b : Nat} {es : Array MapEntry} {clock : Nat} (hb : w.heap[b]? = some (.map es clock)) :
    Calls Try.prog 39 #[.map (some b)] w (Ret fun v w' => v = .map (some w.heap.size) ∧ w' = w.alloc (.map es clock)) := by
  refine Calls.mono (AnyW.maps_Clone Try.cloneA b es clock w hb) ?_
  rintro e w' ⟨rfl, rfl⟩
  exact ⟨rfl, rfl⟩
theorem cloneFresh_calls {w : World} {b : Nat} {es : Array MapEntry} {clock : Nat} (hb : w.heap[b]? = some (.map es clock)) :
    Calls Try.prog 38 #[.map (some b)] w (Ret fun v w' => v = .map (some w.heap.size) ∧ w' = w.alloc (.map es clock)) := by
  refine Calls.mono (AnyW.maps_Clone Try.cloneB b es clock w hb) ?_
  rintro e w' ⟨rfl, rfl⟩
  exact ⟨rfl, rfl⟩
theorem Clone_calls {w0 w : World} {d : Nat} {x : D} {sh : List Fe} {F R : HP} (hsh : RO w0 F sh) (H : Sat w0 w [DISK d x sh, F, R]) :
    Calls Try.prog 9 #[dp d] w (Ret fun v w' => ∃ c S sh', v = dp c ∧ RO w0 (stars [S, F]) sh' ∧ Sat w0 w' [DISK d x sh', DISK c x sh', R, stars [S, F]]) := by
  refine calls_of Try.func9 rfl rfl ?_
  refine WP_r rfl ?_
  refine s_val rfl (x_assign (by conv => lhs; whnf)) ?_
  refine s_end ?_
  refine WP_seq ?_
  refine WP_r rfl ?_
  refine s_val rfl (x_move (by conv => lhs; whnf)) ?_
  refine s_call rfl (by kernel_rfl) (is_calls (H.holdD (i := 0) rfl (j := 1) rfl hsh)) rfl rfl ?_
  rintro v w1 ⟨rfl, e1⟩
  replace H := H.heapEq e1
  clear e1
  obtain ⟨a, cap, fb, mb, mm, ff, fo, hok, hM, hF, hfo, H⟩ := DISK.openL H
  simp only [dlist, List.cons_append, List.nil_append] at H
  have hbig := hok.big
  refine s_val rfl (x_not rfl) ?_
  refine s_end ?_
  refine WP_cond_false rfl ?_
  refine WP_skip ?_
  refine thenQ_n ?_
  refine WP_r rfl ?_
  refine s_val rfl (x_move (by conv => lhs; whnf)) ?_
  refine s_val rfl (x_nilCheck rfl) ?_
  refine s_val rfl (x_loadA (n := 6) (off := 0) (cs := [.slice a (256 * x.vals.length) cap, .map (some fb), .map (some mb), .int .i64 x.left, .bool x.off, .int .i64 x.taken]) (by kernel_rfl) rfl rfl (fun j u hj => H.cell (i := 0) rfl (by simpa using hj))) ?_
  refine s_alloc rfl (show ZeroT Try.prog 49 (.agg #[.slice none 0 0, .map none, .map none, .int .i64 0, .bool false, .int .i64 0]) by unfold ZeroT; kernel_rfl) H ?_
  intro c w2 H2
  clear H
  have H : Sat w0 w2 [_, _, _, _, _, _, _, blk c (.cells [.slice none 0 0, .map none, .map none, .int .i64 0, .bool false, .int .i64 0].toArray 49 (0, 0))] := H2
  clear H2
  refine s_storeA rfl (n := 6) (by kernel_rfl) rfl rfl rfl (by simp [Value.oneCell']) H (i := 7) rfl (by simp) ?_
  clear H
  intro w3 H2
  have H : Sat w0 w3 [_, _, _, _, _, _, _, blk c (.cells #[.slice a (256 * x.vals.length) cap, .map (some fb), .map (some mb), .int .i64 x.left, .bool x.off, .int .i64 x.taken] 49 (0, 0))] := H2
  clear H2
  refine s_end ?_
  have c0 := H.cell (i := 0) (off := 0) rfl rfl
  have c1 := H.cell (i := 0) (off := 1) rfl rfl
  have c2 := H.cell (i := 0) (off := 2) rfl rfl
  refine WP_rd (fun w => w.cell? ⟨d, 0, none⟩ = some (.slice a (256 * x.vals.length) cap) ∧ w.cell? ⟨d, 1, none⟩ = some (.map (some fb)) ∧ w.cell? ⟨d, 2, none⟩ = some (.map (some mb))) (.float 0 (.float 1 (.float 2 (.float 3 (.float 5 (.float 6 (.float 7 (.float 8 (.float 10 (.float 11 (.float 12 (.float 13 (.fork [(4, .fork [(9, .fork [(14, .float 15 (.fork [(16, .float 17 (.fork [(18, .float 19 (.fork [(20, .done)]))]))]))])])]))))))))))))) (by kernel_rfl) (by kernel_rfl) ⟨c0, c1, c2⟩ ?_
  replace H := H.heapEq (w' := { w3 with drawn := w3.drawn + 1 }) rfl
  refine r_val rfl rfl (fun w hI => x_move (by conv => lhs; whnf)) ?_
  refine r_val rfl rfl (fun w hI => x_nilCheck rfl) ?_
  refine r_val rfl rfl (fun w hI => x_field (off := 0) (by kernel_rfl) rfl) ?_
  refine r_val rfl rfl (fun w hI => x_load (by kernel_rfl) rfl (by first | exact hI.1 | exact hI.2.1 | exact hI.2.2)) ?_
  refine r_val rfl rfl (fun w hI => x_move (by conv => lhs; whnf)) ?_
  refine r_val rfl rfl (fun w hI => x_nilCheck rfl) ?_
  refine r_val rfl rfl (fun w hI => x_field (off := 1) (by kernel_rfl) rfl) ?_
  refine r_val rfl rfl (fun w hI => x_load (by kernel_rfl) rfl (by first | exact hI.1 | exact hI.2.1 | exact hI.2.2)) ?_
  refine r_val rfl rfl (fun w hI => x_move (by conv => lhs; whnf)) ?_
  refine r_val rfl rfl (fun w hI => x_nilCheck rfl) ?_
  refine r_val rfl rfl (fun w hI => x_field (off := 2) (by kernel_rfl) rfl) ?_
  refine r_val rfl rfl (fun w hI => x_load (by kernel_rfl) rfl (by first | exact hI.1 | exact hI.2.1 | exact hI.2.2)) ?_
  refine r_one rfl ?_
  refine s_call rfl (by kernel_rfl) (CloneB_calls (H.rd (i := 1) rfl) (by omega)) rfl rfl ?_
  rintro v w4 ⟨a2, cap2, rfl, H2⟩
  replace H := H.more H2
  clear H2
  simp only [List.cons_append, List.nil_append] at H
  obtain ⟨es1, k1, hes1, hm1⟩ := H.mapW (i := 3) rfl
  refine s_end ?_
  refine ⟨⟨H.cell (i := 0) (off := 0) rfl rfl, H.cell (i := 0) (off := 1) rfl rfl, H.cell (i := 0) (off := 2) rfl rfl⟩, ?_⟩
  refine r_one rfl ?_
  refine s_call rfl (by kernel_rfl) (cloneFresh_calls hes1) rfl rfl ?_
  rintro v w5 ⟨rfl, rfl⟩
  replace H := (H.alloc (.map es1 k1)).imp (i := 9) (q := mapP pairF w4.heap.size (ff.map Fe.pair)) rfl (fun g hg => ⟨es1, k1, hg, hm1⟩)
  simp only [List.cons_append, List.nil_append, List.set_cons_zero, List.set_cons_succ] at H
  generalize w4.heap.size = fb' at H ⊢
  obtain ⟨es2, k2, hes2, hm2⟩ := H.mapW (i := 2) rfl
  generalize w4.alloc (.map es1 k1) = w5 at H hes2 ⊢
  refine s_end ?_
  refine ⟨⟨H.cell (i := 0) (off := 0) rfl rfl, H.cell (i := 0) (off := 1) rfl rfl, H.cell (i := 0) (off := 2) rfl rfl⟩, ?_⟩
  refine r_one rfl ?_
  refine s_call rfl (by kernel_rfl) (cloneMany_calls hes2) rfl rfl ?_
  rintro v w6 ⟨rfl, rfl⟩
  replace H := (H.alloc (.map es2 k2)).imp (i := 10) (q := mapP intF w5.heap.size mm) rfl (fun g hg => ⟨es2, k2, hg, hm2⟩)
  simp only [List.cons_append, List.nil_append, List.set_cons_zero, List.set_cons_succ] at H
  generalize w5.heap.size = mb' at H ⊢
  generalize w5.alloc (.map es2 k2) = w6 at H ⊢
  refine s_end ?_
  refine ⟨⟨H.cell (i := 0) (off := 0) rfl rfl, H.cell (i := 0) (off := 1) rfl rfl, H.cell (i := 0) (off := 2) rfl rfl⟩, ?_⟩
  refine r_val rfl rfl (fun w hI => x_field (off := 0) (by kernel_rfl) rfl) ?_
  refine r_one rfl ?_
  refine s_store rfl (by kernel_rfl) rfl (by conv => lhs; whnf) rfl H (i := 7) rfl rfl ?_
  clear H; intro _ H
  simp only [List.set_cons_zero, List.set_cons_succ, List.setIfInBounds_toArray] at H
  refine s_end ?_
  refine ⟨⟨H.cell (i := 0) (off := 0) rfl rfl, H.cell (i := 0) (off := 1) rfl rfl, H.cell (i := 0) (off := 2) rfl rfl⟩, ?_⟩
  refine r_val rfl rfl (fun w hI => x_field (off := 1) (by kernel_rfl) rfl) ?_
  refine r_one rfl ?_
  refine s_store rfl (by kernel_rfl) rfl (by conv => lhs; whnf) rfl H (i := 7) rfl rfl ?_
  clear H; intro _ H
  simp only [List.set_cons_zero, List.set_cons_succ, List.setIfInBounds_toArray] at H
  refine s_end ?_
  refine ⟨⟨H.cell (i := 0) (off := 0) rfl rfl, H.cell (i := 0) (off := 1) rfl rfl, H.cell (i := 0) (off := 2) rfl rfl⟩, ?_⟩
  refine r_val rfl rfl (fun w hI => x_field (off := 2) (by kernel_rfl) rfl) ?_
  refine r_one rfl ?_
  refine s_store rfl (by kernel_rfl) rfl (by conv => lhs; whnf) rfl H (i := 7) rfl rfl ?_
  clear H; intro _ H
  simp only [List.set_cons_zero, List.set_cons_succ, List.setIfInBounds_toArray] at H
  refine s_end ?_
  refine ⟨⟨H.cell (i := 0) (off := 0) rfl rfl, H.cell (i := 0) (off := 1) rfl rfl, H.cell (i := 0) (off := 2) rfl rfl⟩, ?_⟩
  refine r_done ?_
  refine WP_r rfl ?_
  refine s_val rfl (x_assign (by conv => lhs; whnf)) ?_
  refine s_end ?_
  refine WP_ret ?_
  refine retQ_1 rfl (by conv => lhs; whnf) ?_
  have H1 := H.re 2 13 [0, 1, 2, 3, 11, 7, 8, 10, 9, 12, 6, 4, 5] (by kernel_rfl)
  have H2 : Sat w0 _ (dlist d x a cap fb mb mm ff [] ++ (dlist c x a2 cap2 fb' mb' mm ff [] ++ [R, stars (fo.map Fe.own), F])) := H1
  have hall : ∀ e ∈ ff, e ∈ ([] : List Fe) ∨ e ∈ sh ++ fo := fun e he => .inr (by
    rcases hfo e he with h | h
    · exact List.mem_append_right _ h
    · exact List.mem_append_left _ h)
  have H3 := DISK.closeL hok hM hF hall H2
  have H4 := H3.perm (List.perm_append_comm (l₁ := [DISK d x (sh ++ fo)]) (l₂ := dlist c x a2 cap2 fb' mb' mm ff [] ++ [R, stars (fo.map Fe.own), F]))
  rw [List.append_assoc] at H4
  have H5 := DISK.closeL hok hM hF hall H4
  have H6 : Sat w0 _ ([DISK d x (sh ++ fo), DISK c x (sh ++ fo), R] ++ [stars (fo.map Fe.own), F]) := H5.re 0 5 [4, 0, 1, 2, 3] (by kernel_rfl)
  refine ⟨c, _, sh ++ fo, rfl, fun w' H' e he => ?_, H6.tail⟩
  have H7 : Sat w0 w' ([stars (fo.map Fe.own), F] ++ []) := H'.join
  rcases List.mem_append.1 he with h | h
  · exact hsh w' (H7.only (i := 1) rfl) e h
  · exact H7.rdOwn (i := 0) rfl h
/-! ### One disk among other things -/
section
variable {w0 w : World} {d : Nat} {x : D} {sh : List Fe} {F : HP} {L : List HP}
theorem Write_at {i j k : Nat} (H : Sat w0 w L) (hi : L[i]? = some (DISK d x sh)) (hj : (L.eraseIdx i)[j]? = some F) (hsh : RO w0 F sh) (at_ : Int) {a : Option Addr} {n cap : Nat} {bs : List UInt8}
    (hk : (L.eraseIdx i)[k]? = some (slo 5 1 a n cap (bys bs))) (hc : ∀ l ∈ x.vals, l.length < 4611686018427387904) :
    Calls Try.prog 12 #[dp d, .int .i64 at_, .slice a n cap] w (Ret fun v w' => v = .int .i64 (x.write at_ bs).1 ∧ Sat w0 w' (L.set i (DISK d (x.write at_ bs).2 sh))) := by
  refine Calls.mono (Write_calls (hsh.inn hj) (H.focus hi) at_ (fun w' H' => ?_) hc) (Ret.mono fun v w' ⟨e, H'⟩ => ⟨e, H'.unfocus hi⟩)
  have H1 : Sat w0 w' (L.eraseIdx i ++ []) := H'.join
  rw [List.append_nil] at H1
  exact H1.rd hk
theorem Sync_at {i j : Nat} (H : Sat w0 w L) (hi : L[i]? = some (DISK d x sh)) (hj : (L.eraseIdx i)[j]? = some F) (hsh : RO w0 F sh) :
    Calls Try.prog 11 #[dp d] w (Ret fun v w' => v = .int .i64 x.sync.1 ∧ Sat w0 w' (L.set i (DISK d x.sync.2 sh))) :=
  Calls.mono (Sync_calls (hsh.inn hj) (H.focus hi)) (Ret.mono fun v w' ⟨e, H'⟩ => ⟨e, H'.unfocus hi⟩)
theorem Limit_at {i j : Nat} (H : Sat w0 w L) (hi : L[i]? = some (DISK d x sh)) (hj : (L.eraseIdx i)[j]? = some F) (hsh : RO w0 F sh) (n : Int) (hn : n ≤ 9223372036854775807) :
    Calls Try.prog 10 #[dp d, .int .i64 n] w (Ret fun v w' => v = .tuple #[] ∧ Sat w0 w' (L.set i (DISK d (x.limit n) sh))) :=
  Calls.mono (Limit_calls (hsh.inn hj) (H.focus hi) n hn) (Ret.mono fun v w' ⟨e, H'⟩ => ⟨e, H'.unfocus hi⟩)
theorem Crash_at {i j k : Nat} (H : Sat w0 w L) (hi : L[i]? = some (DISK d x sh)) (hj : (L.eraseIdx i)[j]? = some F) (hsh : RO w0 F sh) {a : Option Addr} {n cap : Nat} {picks : List Int}
    (hk : (L.eraseIdx i)[k]? = some (slo 3 1 a n cap (picks.map intF))) :
    Calls Try.prog 21 #[dp d, .slice a n cap] w (Ret fun v w' => v = .int .i64 0 ∧ Sat w0 w' (L.set i (DISK d (x.crash picks) sh))) := by
  refine Calls.mono (Crash_calls (hsh.inn hj) (fun w' H' => ?_) (H.focus hi)) (Ret.mono fun v w' ⟨e, H'⟩ => ⟨e, H'.unfocus hi⟩)
  have H1 : Sat w0 w' (L.eraseIdx i ++ []) := H'.join
  rw [List.append_nil] at H1
  exact H1.rd hk
/-- A crash with no picks at all. -/
theorem Crash_at0 {i j : Nat} (H : Sat w0 w L) (hi : L[i]? = some (DISK d x sh)) (hj : (L.eraseIdx i)[j]? = some F) (hsh : RO w0 F sh) :
    Calls Try.prog 21 #[dp d, .slice none 0 0] w (Ret fun v w' => v = .int .i64 0 ∧ Sat w0 w' (L.set i (DISK d (x.crash []) sh))) :=
  Calls.mono (Crash_calls (hsh.inn hj) (picks := []) (fun w' H' => ⟨rfl, Nat.le_refl _, fun h => absurd h (Nat.lt_irrefl 0)⟩) (H.focus hi)) (Ret.mono fun v w' ⟨e, H'⟩ => ⟨e, H'.unfocus hi⟩)
end
end Go.Sl
