/- Structs and arrays stored whole. Holds for every program. -/
import Derived.Test.YthalgkfafoehkaaSl12
namespace Go.Sl
section
variable {P : Program} {ρ : Fr} {w w' w0 : World} {ops : Array Oper} {ty : TypeId} {pos : String} {af : Array Edge} {g : Option (Nat × Bool)} {l : List Oper} {K : Fr → World → Prop} {L : List HP}
def putRow (cs : List Value) (off : Nat) (vs : List Value) : Array Value := (cs.take off ++ vs ++ cs.drop (off + vs.length)).toArray
theorem s_storeA {t n : TypeId} {a x : Operand} {i b off : Nat} {cs vs : List Value} {T : TypeId} (hw : wantedR ops ρ ⟨none, .store t a x, ty, pos, af, g⟩ = true) (h1 : aggB P t n = true)
    (ha : ev ρ a = .pointer (some ⟨b, off, none⟩)) (hx : ev ρ x = .agg vs.toArray) (hn : vs.length = n) (hv : ∀ u ∈ vs, u.oneCell' = true)
    (H : Sat w0 w L) (hi : L[i]? = some (blk b (.cells cs.toArray T (0, 0)))) (ho : off + vs.length ≤ cs.length)
    (h : ∀ w', Sat w0 w' (L.set i (blk b (.cells (putRow cs off vs) T (0, 0)))) → Seq1 P ops l ρ w' K) : Seq1 P ops (⟨none, .store t a x, ty, pos, af, g⟩ :: l) ρ w K := by
  have hb := H.heap hi
  have hst := run_storeCells_at P b off T vs 0 cs.toArray w hb (by simp; omega) hv
  have hbut : But w (w.setRow b (putRow cs off vs)) b := by
    refine ⟨by simp [World.setRow], fun j hj => ?_, rfl, rfl, rfl⟩
    simp [World.setRow, Array.getElem?_modify, Ne.symm hj]
  have hnew := setRow_heap w b cs.toArray (putRow cs off vs) T (0, 0) hb
  have H2 := H.set hi hbut hnew
  refine s_do hw (fun _ _ _ _ => ?_) (h _ H2)
  have hc : (Value.agg vs.toArray).cells = vs.toArray := rfl
  simp only [Nat.add_zero, List.size_toArray] at hst
  simp [execOp, ha, hx, Instr.storeAt, Instr.sureAddr, storeVar, hc, (aggB_spec (w := w) h1).2, hn, hst, putRow]
end
/-! ### Going through no map -/
section
variable {P : Program} {ρ : Fr} {w w' w0 : World} {ops : Array Oper} {ty : TypeId} {pos : String} {af : Array Edge} {g : Option (Nat × Bool)} {l : List Oper} {Kk : Fr → World → Prop} {L : List HP} {t K E : TypeId}
theorem s_rangeNil {x : Operand} {d : Nat} (hw : wantedR ops ρ ⟨some d, .range t x, ty, pos, af, g⟩ = true) (hT : P.underlying t = some (.map K E)) (hx : ev ρ x = .map none) (H : Sat w0 w L)
    (h : ∀ r w', Sat w0 w' (L ++ [blk r (.mapIter none 0 #[] 0)]) → Seq1 P ops l (upd ρ d (.pointer (some ⟨r, 0, none⟩))) w' Kk) : Seq1 P ops (⟨some d, .range t x, ty, pos, af, g⟩ :: l) ρ w Kk := by
  refine s_val hw (fun _ _ _ _ => ?_) (h w.heap.size _ (H.alloc (.mapIter none 0 #[] 0)))
  simp only [execOp, hx, Sem.run_bind, run_range_nilMap w t K E hT, Result.andThen_ok, Sem.run_pure]
theorem x_nextNil {x : Operand} {r : Nat} (hx : ev ρ x = .pointer (some ⟨r, 0, none⟩)) (hr : w.heap[r]? = some (.mapIter none 0 #[] 0)) : Ev1 P (.next x false) ty ρ w (.tuple #[.bool false]) w := fun _ _ _ _ => by
  have e : (Instr.next (.pointer (some ⟨r, 0, none⟩)) false ty).run P w = .ok (.tuple #[.bool false]) w := by
    simp only [Instr.next, getObj, Sem.run_bind, Sem.run, hr, Result.andThen]
    rfl
  simp only [execOp, hx, Sem.run_bind, e, Result.andThen_ok, Sem.run_pure]
end
/-! ### Where ways meet -/
section
variable {P : Program} {n : Nat} {ρ : Fr} {w : World} {Q : Exit → Fr → World → Prop} {c y : Code}
def MeetI {α : Type} (live : α → List (Nat × Value)) (I : α → World → Prop) : Fr → World → Prop := fun ρ w => ∃ x, Slots ρ (live x) ∧ I x w
theorem WP_meetA {α : Type} (live : α → List (Nat × Value)) (I : α → World → Prop) (h : WP P n c ρ w (thenQ (MeetI live I) Q)) (k : ∀ x ρ w, I x w → WP P n y (upds (live x) ρ) w Q) : WP P n (.seq c y) ρ w Q := by
  refine WP_seq (WP.mono h fun e ρ w q => ?_)
  cases e with
  | normal =>
    obtain ⟨x, h1, h2⟩ := (q : MeetI live I ρ w)
    have := k x ρ w h2
    rw [h1.upds] at this
    exact this
  | _ => exact q
theorem thenQ_meet {α : Type} {live : α → List (Nat × Value)} {I : α → World → Prop} (x : α) (hs : Slots ρ (live x)) (hI : I x w) : thenQ (MeetI live I) Q .normal ρ w := ⟨x, hs, hI⟩
end
section
variable {P : Program} {ρ : Fr} {w : World} {ty : TypeId} {t : TypeId}
theorem x_neqBool_of {x y : Operand} {yt : TypeId} {p q r : Bool} (e : (!(p == q)) = r) (hu : P.underlying t = some .bool) (hx : ev ρ x = .bool p) (hy : ev ρ y = .bool q) : Ev1 P (.binOp .neq t x y yt) ty ρ w (.bool r) w := e ▸ x_neqBool hu hx hy
theorem x_eqlBool_of {x y : Operand} {yt : TypeId} {p q r : Bool} (e : (p == q) = r) (hu : P.underlying t = some .bool) (hx : ev ρ x = .bool p) (hy : ev ρ y = .bool q) : Ev1 P (.binOp .eql t x y yt) ty ρ w (.bool r) w := e ▸ x_eqlBool hu hx hy
end
/-! ### Lists of assertions in another order -/
theorem Sat.addEmps {w0 w : World} {L : List HP} (H : Sat w0 w L) : ∀ k, Sat w0 w (L ++ List.replicate k emp) := by
  intro k
  refine H.more ⟨Ext.refl w, ?_⟩
  induction k with
  | zero => trivial
  | succ k ih => exact ⟨fun _ => none, hpOf w w, fun _ => .inl rfl, (fun _ _ e => by cases e), sub.refl _, trivial, ih⟩
/-- k empty assertions more, then all by the numbers js, then the first m of them. -/
theorem Sat.re {w0 w : World} {L : List HP} (H : Sat w0 w L) (k m : Nat) (js : List Nat) (h : js.isPerm (List.range (L ++ List.replicate k emp).length) = true) : Sat w0 w ((js.map fun j => (L ++ List.replicate k emp).getD j emp).take m) := by
  have H1 := H.addEmps k
  generalize L ++ List.replicate k emp = M at h H1
  have hp := (List.isPerm_iff.1 h).map fun j => M.getD j emp
  have e : (List.range M.length).map (fun j => M.getD j emp) = M := by
    apply List.ext_getElem?
    intro i
    rw [List.getElem?_map]
    by_cases hi : i < M.length
    · simp [hi]
    · simp [hi]
  rw [e] at hp
  have H2 := H1.perm hp.symm
  rw [← List.take_append_drop m (js.map fun j => M.getD j emp)] at H2
  have H3 := (H2.perm List.perm_append_comm).part
  exact H3.drop 0
end Go.Sl
