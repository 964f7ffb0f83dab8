/- What each operation of the model does, one lemma an operation, over frames as functions; and the steps by which a region is walked. Holds for every program. -/
import Derived.Test.YthalgkfafoehkaaSl1
import Derived.Test.YthalgkfafoehkaaSl2
import Derived.IntWalk
import Derived.Laws.Rows
import Derived.Laws.CopyRow
import Derived.Laws.Cells
namespace Go.Sl

/-- An operation gives a value. -/
def Ev1 (P : Program) (op : Op) (ty : TypeId) (ρ : Fr) (w : World) (v : Value) (w' : World) : Prop :=
  ∀ dst pos af g, (execOp (ev ρ) ⟨dst, op, ty, pos, af, g⟩).run P w = .ok (.value v) w'
/-- An operation gives no value. -/
def Do1 (P : Program) (op : Op) (ty : TypeId) (ρ : Fr) (w : World) (w' : World) : Prop :=
  ∀ dst pos af g, (execOp (ev ρ) ⟨dst, op, ty, pos, af, g⟩).run P w = .ok .skip w'

section
variable {P : Program} {ρ : Fr} {w w' : World} {ops : Array Oper} {op : Op} {ty : TypeId} {pos : String} {af : Array Edge} {g : Option (Nat × Bool)} {l : List Oper} {K : Fr → World → Prop} {v : Value}

theorem s_val {d : Nat} (hw : wantedR ops ρ ⟨some d, op, ty, pos, af, g⟩ = true) (he : Ev1 P op ty ρ w v w') (h : Seq1 P ops l (upd ρ d v) w' K) : Seq1 P ops (⟨some d, op, ty, pos, af, g⟩ :: l) ρ w K := by
  unfold Seq1 Op1
  rw [hw]
  simp only [cond_true]
  refine ⟨?_⟩
  unfold DoesRun
  rw [he]
  exact h
theorem s_valn (hw : wantedR ops ρ ⟨none, op, ty, pos, af, g⟩ = true) (he : Ev1 P op ty ρ w v w') (h : Seq1 P ops l ρ w' K) : Seq1 P ops (⟨none, op, ty, pos, af, g⟩ :: l) ρ w K := by
  unfold Seq1 Op1
  rw [hw]
  simp only [cond_true]
  refine ⟨?_⟩
  unfold DoesRun
  rw [he]
  exact h
theorem s_do (hw : wantedR ops ρ ⟨none, op, ty, pos, af, g⟩ = true) (he : Do1 P op ty ρ w w') (h : Seq1 P ops l ρ w' K) : Seq1 P ops (⟨none, op, ty, pos, af, g⟩ :: l) ρ w K := by
  unfold Seq1 Op1
  rw [hw]
  simp only [cond_true]
  refine ⟨?_⟩
  unfold DoesRun
  rw [he]
  exact h
theorem s_out {d : Nat} (hw : wantedR ops ρ ⟨some d, op, ty, pos, af, g⟩ = false) (h : Seq1 P ops l (upd ρ d undef) w K) : Seq1 P ops (⟨some d, op, ty, pos, af, g⟩ :: l) ρ w K := by
  unfold Seq1 Op1
  rw [hw]
  exact h
theorem s_outn (hw : wantedR ops ρ ⟨none, op, ty, pos, af, g⟩ = false) (h : Seq1 P ops l ρ w K) : Seq1 P ops (⟨none, op, ty, pos, af, g⟩ :: l) ρ w K := by
  unfold Seq1 Op1
  rw [hw]
  exact h
theorem s_end (h : K ρ w) : Seq1 P ops [] ρ w K := h
/-! The steps of a region whose order is open -/
section
variable {Inv : World → Prop} {i : Nat} {r : Ord}
theorem r_val {d : Nat} (ho : ops[i]? = some ⟨some d, op, ty, pos, af, g⟩) (hw : wantedR ops ρ ⟨some d, op, ty, pos, af, g⟩ = true) (he : ∀ w, Inv w → Ev1 P op ty ρ w v w) (h : r.run P Inv ops (upd ρ d v) w K) :
    (Ord.float i r).run P Inv ops ρ w K := by
  unfold Ord.run
  refine ⟨_, v, ho, ?_, h⟩
  unfold Gives
  rw [hw]
  exact fun w hI => he w hI _ _ _ _
theorem r_out {d : Nat} (ho : ops[i]? = some ⟨some d, op, ty, pos, af, g⟩) (hw : wantedR ops ρ ⟨some d, op, ty, pos, af, g⟩ = false) (h : r.run P Inv ops (upd ρ d undef) w K) :
    (Ord.float i r).run P Inv ops ρ w K := by
  unfold Ord.run
  refine ⟨_, undef, ho, ?_, h⟩
  unfold Gives
  rw [hw]
  rfl
theorem r_outn (ho : ops[i]? = some ⟨none, op, ty, pos, af, g⟩) (hw : wantedR ops ρ ⟨none, op, ty, pos, af, g⟩ = false) (h : r.run P Inv ops ρ w K) :
    (Ord.float i r).run P Inv ops ρ w K := by
  unfold Ord.run
  refine ⟨_, undef, ho, ?_, h⟩
  unfold Gives
  rw [hw]
  rfl
theorem r_bool {d : Nat} {b : Bool} (ho : ops[i]? = some ⟨some d, op, ty, pos, af, g⟩) (hw : wantedR ops ρ ⟨some d, op, ty, pos, af, g⟩ = true) (he : ∀ w, Inv w → Ev1 P op ty ρ w (.bool b) w)
    (h1 : b = true → r.run P Inv ops (upd ρ d (.bool true)) w K) (h2 : b = false → r.run P Inv ops (upd ρ d (.bool false)) w K) : (Ord.float i r).run P Inv ops ρ w K := by
  refine r_val ho hw he ?_
  cases b
  · exact h2 rfl
  · exact h1 rfl
theorem r_dec {d : Nat} {p : Prop} [Decidable p] (ho : ops[i]? = some ⟨some d, op, ty, pos, af, g⟩) (hw : wantedR ops ρ ⟨some d, op, ty, pos, af, g⟩ = true) (he : ∀ w, Inv w → Ev1 P op ty ρ w (.bool (decide p)) w)
    (h1 : p → r.run P Inv ops (upd ρ d (.bool true)) w K) (h2 : ¬ p → r.run P Inv ops (upd ρ d (.bool false)) w K) : (Ord.float i r).run P Inv ops ρ w K :=
  r_bool ho hw he (fun e => h1 (of_decide_eq_true e)) (fun e => h2 (of_decide_eq_false e))
theorem r_one {o : Oper} (ho : ops[i]? = some o) (h : Seq1 P ops [o] ρ w fun ρ w => Inv w ∧ r.run P Inv ops ρ w K) : (Ord.fork [(i, r)]).run P Inv ops ρ w K := by
  unfold Ord.run Ord.runs
  exact ⟨⟨o, ho, h⟩, trivial⟩
theorem r_two {j : Nat} {s : Ord} {o q : Oper} (ho : ops[i]? = some o) (hq : ops[j]? = some q) (h : Seq1 P ops [o] ρ w fun ρ w => Inv w ∧ r.run P Inv ops ρ w K) (h2 : Seq1 P ops [q] ρ w fun ρ w => Inv w ∧ s.run P Inv ops ρ w K) :
    (Ord.fork [(i, r), (j, s)]).run P Inv ops ρ w K := by
  unfold Ord.run Ord.runs Ord.runs
  exact ⟨⟨o, ho, h⟩, ⟨q, hq, h2⟩, trivial⟩
theorem r_done (h : K ρ w) : Ord.done.run P Inv ops ρ w K := by
  unfold Ord.run; exact h
end
/-- A bool that is told apart. -/
theorem s_bool {d : Nat} {b : Bool} (hw : wantedR ops ρ ⟨some d, op, ty, pos, af, g⟩ = true) (he : Ev1 P op ty ρ w (.bool b) w') (h1 : b = true → Seq1 P ops l (upd ρ d (.bool true)) w' K)
    (h2 : b = false → Seq1 P ops l (upd ρ d (.bool false)) w' K) : Seq1 P ops (⟨some d, op, ty, pos, af, g⟩ :: l) ρ w K := by
  refine s_val hw he ?_
  cases b
  · exact h2 rfl
  · exact h1 rfl
theorem s_dec {d : Nat} {p : Prop} [Decidable p] (hw : wantedR ops ρ ⟨some d, op, ty, pos, af, g⟩ = true) (he : Ev1 P op ty ρ w (.bool (decide p)) w') (h1 : p → Seq1 P ops l (upd ρ d (.bool true)) w' K)
    (h2 : ¬ p → Seq1 P ops l (upd ρ d (.bool false)) w' K) : Seq1 P ops (⟨some d, op, ty, pos, af, g⟩ :: l) ρ w K :=
  s_bool hw he (fun e => h1 (of_decide_eq_true e)) (fun e => h2 (of_decide_eq_false e))

theorem run_program : program.run P w = .ok P w := rfl
theorem run_und {t : TypeId} {d : TypeDesc} (h : P.underlying t = some d) : (underlying t).run P w = .ok d w := by
  have e : (underlying t).run P w = (match P.underlying t with | some d => (pure d : Sem TypeDesc) | none => stuck "no such type").run P w := rfl
  rw [e, h]; rfl
theorem run_info {t : TypeId} {i : TypeInfo} (h : P.info? t = some i) : (typeInfo t).run P w = .ok i w := by
  have e : (typeInfo t).run P w = (match P.info? t with | some d => (pure d : Sem TypeInfo) | none => stuck "no such type").run P w := rfl
  rw [e, h]; rfl
/-! ### Calls -/
def bodyB (P : Program) (f : FuncId) : Bool := match P.funcs[f]? with
  | some fn => fn.body.isSome && !(fn.name == "runtime.NumGoroutine")
  | none => false
theorem run_callFunc {f : FuncId} (hb : bodyB P f = true) (args : Array Value) : (callFunc f args).run P w = .ok (.enter f args) w := by
  unfold bodyB at hb
  cases hf : P.funcs[f]? with
  | none => rw [hf] at hb; cases hb
  | some fn =>
    rw [hf] at hb
    simp only [Bool.and_eq_true, Bool.not_eq_true'] at hb
    have h2 : fn.body.isNone = false := by cases hbd : fn.body with
      | none => rw [hbd] at hb; cases hb.1
      | some _ => rfl
    have e : (callFunc f args).run P w = (match P.funcs[f]? with
      | none => (stuck "call: no such function" : Sem Next)
      | some fn =>
        if fn.name == "runtime.NumGoroutine" then pure .numGoroutine
        else if fn.body.isNone then do
          mark (.extern f)
          if let some e := Extern.findNext fn then return ← e args
          match Extern.find fn with
          | some e => pure (.value (← e args))
          | none =>
            if fn.name.endsWith ".init" && !fn.name.startsWith "(" && !fn.name.startsWith "gosem." then pure (.value (.tuple #[]))
            else unsupported (.extern fn.name)
        else pure (.enter f args)).run P w := rfl
    rw [e, hf]
    simp only [hb.2, h2, Bool.false_eq_true, if_false]
    rfl
theorem run_call {f : FuncId} {cl : Operand} {xs : Array Operand} {ats : Array TypeId} {first cap : Array Value} {args : List Value} (hb : bodyB P f = true)
    (hf : ev ρ cl = .func (.func f) first cap) (ha : first.toList ++ (xs.toList.map (ev ρ) ++ cap.toList) = args) (dst : Option Tmp) :
    (execOp (ev ρ) ⟨dst, .call ⟨.value cl, xs, ats⟩, ty, pos, af, g⟩).run P w = .ok (.enter f args.toArray) w := by
  have e : first ++ xs.map (ev ρ) ++ cap = args.toArray := by
    subst ha
    apply Array.ext'
    simp
  have := run_callFunc (w := w) hb (first ++ xs.map (ev ρ) ++ cap)
  rw [← e]
  simpa [execOp, resolve, hf, Deferred.ofValue, invoke] using this

theorem s_call {f : FuncId} {cl : Operand} {xs : Array Operand} {ats : Array TypeId} {first cap : Array Value} {args : List Value} {d : Nat} {φ : Value → World → Prop}
    (hw : wantedR ops ρ ⟨some d, .call ⟨.value cl, xs, ats⟩, ty, pos, af, g⟩ = true) (hb : bodyB P f = true) (hc : Calls P f args.toArray w (Ret φ))
    (hf : ev ρ cl = .func (.func f) first cap) (ha : first.toList ++ (xs.toList.map (ev ρ) ++ cap.toList) = args)
    (h : ∀ v w', φ v w' → Seq1 P ops l (upd ρ d v) w' K) : Seq1 P ops (⟨some d, .call ⟨.value cl, xs, ats⟩, ty, pos, af, g⟩ :: l) ρ w K := by
  unfold Seq1 Op1
  rw [hw]
  simp only [cond_true]
  refine ⟨?_⟩
  unfold DoesRun
  rw [run_call hb hf ha]
  exact Calls.mono hc (Ret.mono h)
theorem s_calln {f : FuncId} {cl : Operand} {xs : Array Operand} {ats : Array TypeId} {first cap : Array Value} {args : List Value} {φ : Value → World → Prop}
    (hw : wantedR ops ρ ⟨none, .call ⟨.value cl, xs, ats⟩, ty, pos, af, g⟩ = true) (hb : bodyB P f = true) (hc : Calls P f args.toArray w (Ret φ))
    (hf : ev ρ cl = .func (.func f) first cap) (ha : first.toList ++ (xs.toList.map (ev ρ) ++ cap.toList) = args)
    (h : ∀ v w', φ v w' → Seq1 P ops l ρ w' K) : Seq1 P ops (⟨none, .call ⟨.value cl, xs, ats⟩, ty, pos, af, g⟩ :: l) ρ w K := by
  unfold Seq1 Op1
  rw [hw]
  simp only [cond_true]
  refine ⟨?_⟩
  unfold DoesRun
  rw [run_call hb hf ha]
  exact Calls.mono hc (Ret.mono h)

/-! ### Plain operations -/
theorem x_move {x : Operand} (hv : ev ρ x = v) : Ev1 P (.move x) ty ρ w v w := fun _ _ _ _ => by subst hv; simp [execOp]
theorem x_assign {x : Operand} (hv : ev ρ x = v) : Ev1 P (.assign x) ty ρ w v w := fun _ _ _ _ => by subst hv; simp [execOp]
theorem x_nilCheck {x : Operand} {a : Addr} (hv : ev ρ x = .pointer (some a)) : Ev1 P (.nilCheck x) ty ρ w (.pointer (some a)) w := fun _ _ _ _ => by simp [execOp, hv]
theorem x_pick_true {c a b : Operand} (hc : ev ρ c = .bool true) (hv : ev ρ a = v) : Ev1 P (.pick c a b) ty ρ w v w := fun _ _ _ _ => by subst hv; simp [execOp, hc, asBool]
theorem x_pick_false {c a b : Operand} (hc : ev ρ c = .bool false) (hv : ev ρ b = v) : Ev1 P (.pick c a b) ty ρ w v w := fun _ _ _ _ => by subst hv; simp [execOp, hc, asBool]
theorem x_not {x : Operand} {t : TypeId} {b : Bool} (hv : ev ρ x = .bool b) : Ev1 P (.unOp .not t x) ty ρ w (.bool !b) w := fun _ _ _ _ => by simp [execOp, hv, Op.unary]
theorem x_notd {x : Operand} {t : TypeId} {p : Prop} [Decidable p] (hv : ev ρ x = .bool (decide p)) : Ev1 P (.unOp .not t x) ty ρ w (.bool (decide ¬ p)) w := fun _ _ _ _ => by simp [execOp, hv, Op.unary]
theorem x_extract {x : Operand} {vs : Array Value} {i : Nat} (hx : ev ρ x = .tuple vs) (hv : vs[i]? = some v) : Ev1 P (.extract x i) ty ρ w v w := fun _ _ _ _ => by simp [execOp, hx, Instr.extract, hv]
theorem x_makeFunc {fn : Fn} {first cap : Array Operand} : Ev1 P (.makeFunc fn first cap) ty ρ w (.func fn (first.map (ev ρ)) (cap.map (ev ρ))) w := fun _ _ _ _ => by simp [execOp, Instr.makeFunc]

section ints
variable {t yt : TypeId} {x y : Operand} {k : IntKind} {a b : Int}
theorem x_add (hx : ev ρ x = .int k a) (hy : ev ρ y = .int k b) : Ev1 P (.binOp .add t x y yt) ty ρ w (.int k (k.wrap (a + b))) w := fun _ _ _ _ => by simp [execOp, hx, hy, eqGuard, binOp, Op.intArith]
theorem x_sub (hx : ev ρ x = .int k a) (hy : ev ρ y = .int k b) : Ev1 P (.binOp .sub t x y yt) ty ρ w (.int k (k.wrap (a - b))) w := fun _ _ _ _ => by simp [execOp, hx, hy, eqGuard, binOp, Op.intArith]
theorem x_mul (hx : ev ρ x = .int k a) (hy : ev ρ y = .int k b) : Ev1 P (.binOp .mul t x y yt) ty ρ w (.int k (k.wrap (a * b))) w := fun _ _ _ _ => by simp [execOp, hx, hy, eqGuard, binOp, Op.intArith]
theorem x_addi (hx : ev ρ x = .int .i64 a) (hy : ev ρ y = .int .i64 b) (h : -9223372036854775808 ≤ a + b ∧ a + b ≤ 9223372036854775807) : Ev1 P (.binOp .add t x y yt) ty ρ w (.int .i64 (a + b)) w := by
  have := x_add (P := P) (ty := ty) (w := w) (t := t) (yt := yt) hx hy; rwa [IntWalk.i64_in _ h] at this
theorem x_subi (hx : ev ρ x = .int .i64 a) (hy : ev ρ y = .int .i64 b) (h : -9223372036854775808 ≤ a - b ∧ a - b ≤ 9223372036854775807) : Ev1 P (.binOp .sub t x y yt) ty ρ w (.int .i64 (a - b)) w := by
  have := x_sub (P := P) (ty := ty) (w := w) (t := t) (yt := yt) hx hy; rwa [IntWalk.i64_in _ h] at this
theorem x_muli (hx : ev ρ x = .int .i64 a) (hy : ev ρ y = .int .i64 b) (h : -9223372036854775808 ≤ a * b ∧ a * b ≤ 9223372036854775807) : Ev1 P (.binOp .mul t x y yt) ty ρ w (.int .i64 (a * b)) w := by
  have := x_mul (P := P) (ty := ty) (w := w) (t := t) (yt := yt) hx hy; rwa [IntWalk.i64_in _ h] at this
theorem x_quo (hx : ev ρ x = .int k a) (hy : ev ρ y = .int k b) (hb : b ≠ 0) : Ev1 P (.binOp .quo t x y yt) ty ρ w (.int k (k.wrap (a.tdiv b))) w := fun _ _ _ _ => by simp [execOp, hx, hy, eqGuard, binOp, Op.intDiv, hb]
theorem x_quoi (hx : ev ρ x = .int .i64 a) (hy : ev ρ y = .int .i64 b) (h : 0 ≤ a ∧ a ≤ 9223372036854775807 ∧ 1 ≤ b) : Ev1 P (.binOp .quo t x y yt) ty ρ w (.int .i64 (a / b)) w := by
  have := x_quo (P := P) (ty := ty) (w := w) (t := t) (yt := yt) hx hy (by omega); rwa [IntWalk.i64_quo _ _ h] at this
theorem x_rem (hx : ev ρ x = .int k a) (hy : ev ρ y = .int k b) (hb : b ≠ 0) : Ev1 P (.binOp .rem t x y yt) ty ρ w (.int k (a.tmod b)) w := fun _ _ _ _ => by simp [execOp, hx, hy, eqGuard, binOp, Op.intDiv, hb]
theorem x_remi (hx : ev ρ x = .int k a) (hy : ev ρ y = .int k b) (h : 0 ≤ a ∧ 1 ≤ b) : Ev1 P (.binOp .rem t x y yt) ty ρ w (.int k (a % b)) w := by
  have := x_rem (P := P) (ty := ty) (w := w) (t := t) (yt := yt) hx hy (by omega); rwa [IntWalk.rem_in _ _ h.1] at this
theorem x_lss (hx : ev ρ x = .int k a) (hy : ev ρ y = .int k b) : Ev1 P (.binOp .lss t x y yt) ty ρ w (.bool (decide (a < b))) w := fun _ _ _ _ => by simp [execOp, hx, hy, eqGuard, binOp, Op.intCmp]
theorem x_leq (hx : ev ρ x = .int k a) (hy : ev ρ y = .int k b) : Ev1 P (.binOp .leq t x y yt) ty ρ w (.bool (decide (a ≤ b))) w := fun _ _ _ _ => by simp [execOp, hx, hy, eqGuard, binOp, Op.intCmp]
theorem x_gtr (hx : ev ρ x = .int k a) (hy : ev ρ y = .int k b) : Ev1 P (.binOp .gtr t x y yt) ty ρ w (.bool (decide (b < a))) w := fun _ _ _ _ => by simp [execOp, hx, hy, eqGuard, binOp, Op.intCmp]
theorem x_geq (hx : ev ρ x = .int k a) (hy : ev ρ y = .int k b) : Ev1 P (.binOp .geq t x y yt) ty ρ w (.bool (decide (b ≤ a))) w := fun _ _ _ _ => by simp [execOp, hx, hy, eqGuard, binOp, Op.intCmp]
theorem x_eql (hx : ev ρ x = .int k a) (hy : ev ρ y = .int k b) : Ev1 P (.binOp .eql t x y yt) ty ρ w (.bool (decide (a = b))) w := fun _ _ _ _ => by simp [execOp, hx, hy, eqGuard, binOp, Op.intCmp]; rfl
theorem x_neq (hx : ev ρ x = .int k a) (hy : ev ρ y = .int k b) : Ev1 P (.binOp .neq t x y yt) ty ρ w (.bool (decide (¬ a = b))) w := fun _ _ _ _ => by
  simp [execOp, hx, hy, eqGuard, binOp, Op.intCmp]; rfl
theorem x_conv {s d : TypeId} {k' : IntKind} {u : TypeDesc} (hs : P.underlying s = some u) (hd : P.underlying d = some (.int k')) (hx : ev ρ x = .int k a) :
    Ev1 P (.convert s d x) ty ρ w (.int k' (k'.wrap a)) w := fun _ _ _ _ => by
  simp [execOp, hx, convert, run_und hs, run_und hd, Conv.intToInt]
end ints
end
end Go.Sl
