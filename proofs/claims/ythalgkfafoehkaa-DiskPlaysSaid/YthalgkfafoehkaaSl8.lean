/- Maps. Holds for every program. -/
import Derived.Test.YthalgkfafoehkaaSl7
namespace Go.Sl
/-- Where a key stands. -/
def findIx {κ : Type} [DecidableEq κ] (k : κ) : List κ → List MapEntry → Nat → Option (Nat × Value)
  | x :: ks, e :: es, i => if x = k then some (i, e.val) else findIx k ks es (i + 1)
  | _, _, _ => none
/-- What the model's maps ask of a type of keys. -/
structure KeyT (P : Program) (K : TypeId) {κ : Type} [DecidableEq κ] (kf : κ → Value) : Prop where
  check : ∀ (w : World) (em : Bool) (k : κ), (Instr.checkKey em 10000 K (kf k)).run P w = .ok () w
  find : ∀ (w : World) (k : κ) (ks : List κ) (es : List MapEntry), es.map (·.key) = ks.map kf → (Instr.findKey K (kf k) es).run P w = .ok (findIx k ks es 0) w
  stays : ∀ (w : World) (k : κ), (Instr.keyThatStays (kf k) (kf k)).run P w = .ok (kf k) w

section
variable {P : Program} {ρ : Fr} {w w' w0 : World} {ops : Array Oper} {op : Op} {ty : TypeId} {pos : String} {af : Array Edge} {g : Option (Nat × Bool)} {l : List Oper} {Kk : Fr → World → Prop} {v : Value} {L : List HP}

theorem keyT_int {K : TypeId} (hK : P.underlying K = some (.int .i64)) : KeyT P K (fun n : Int => Value.int .i64 n) where
  check w em k := by
    show (Instr.checkKey em (9999 + 1) K _).run P w = _
    rw [Instr.checkKey]
    simp only [Sem.run_bind, run_und hK, Result.andThen_ok]
    rfl
  find w k ks es h := by
    have key : ∀ (ks : List Int) (es : List MapEntry) (i : Nat), es.map (·.key) = ks.map (fun n => Value.int .i64 n) → Instr.findNow (.int .i64) (.int .i64 k) es i = some (findIx k ks es i) := by
      intro ks
      induction ks with
      | nil => intro es i h; cases es with
        | nil => rfl
        | cons e es => simp at h
      | cons x ks ih => intro es i h; cases es with
        | nil => simp at h
        | cons e es =>
          simp only [List.map_cons, List.cons.injEq] at h
          unfold Instr.findNow findIx
          rw [h.1]
          have e1 : Instr.sameNow (.int .i64) (.int .i64 k) (.int .i64 x) = some (k == x) := by simp [Instr.sameNow]
          rw [e1]
          by_cases hx : x = k
          · subst hx; simp
          · have : (k == x) = false := by simpa using fun e : k = x => hx e.symm
            rw [this, if_neg hx]
            exact ih es (i + 1) h.2
    unfold Instr.findKey
    simp only [Sem.run_bind, run_und hK, Result.andThen_ok, key ks es 0 h]
    rfl
  stays w k := by
    unfold Instr.keyThatStays
    have : Instr.sameBits 10000 (.int .i64 k) (.int .i64 k) = true := by simp [Instr.sameBits]
    rw [this]; rfl

/-- The keys that are structs of two numbers. -/
def pairF (p : Int × Int) : Value := .agg #[.int .i64 p.1, .int .i64 p.2]
structure PairT (P : Program) (K : TypeId) (f1 f2 : Field) : Prop where
  und : P.underlying K = some (.struct #[f1, f2])
  n1 : (f1.name == "_") = false
  n2 : (f2.name == "_") = false
  o1 : f1.offset = 0
  o2 : f2.offset = 1
  u1 : P.underlying f1.type = some (.int .i64)
  u2 : P.underlying f2.type = some (.int .i64)
  held : P.stoodInHeld K = false
theorem run_part_int {t : TypeId} {cs : Array Value} {off : Nat} {u : Value} (h : P.underlying t = some (.int .i64)) (hc : cs[off]? = some u) : (part t cs off).run P w = .ok u w := by
  unfold part isAgg
  simp only [Sem.run_bind, run_und h, Result.andThen_ok, Sem.run_pure, Bool.false_eq_true, if_false, hc]
theorem run_checkInt {em : Bool} {m : Nat} {t : TypeId} {x : Int} (h : P.underlying t = some (.int .i64)) : (Instr.checkKey em (m + 1) t (.int .i64 x)).run P w = .ok () w := by
  rw [Instr.checkKey]
  simp only [Sem.run_bind, run_und h, Result.andThen_ok]
  rfl
theorem run_equalInt {m : Nat} {t : TypeId} {x y : Int} (h : P.underlying t = some (.int .i64)) : (Op.equalIn (m + 1) t (.int .i64 x) (.int .i64 y)).run P w = .ok (x == y) w := by
  rw [Op.equalIn]
  simp only [Sem.run_bind, run_und h, Result.andThen_ok]
  rfl
theorem run_equalPair {K : TypeId} {f1 f2 : Field} (h : PairT P K f1 f2) (p q : Int × Int) : (Op.equal K (pairF p) (pairF q)).run P w = .ok (decide (q = p)) w := by
  show (Op.equalIn (9998 + 1 + 1) K (pairF p) (pairF q)).run P w = _
  rw [Op.equalIn]
  have n1 : ¬ f1.name = "_" := by simpa using h.n1
  have n2 : ¬ f2.name = "_" := by simpa using h.n2
  have p1 : ∀ (x y : Int), (part f1.type #[Value.int .i64 x, .int .i64 y] f1.offset).run P w = .ok (.int .i64 x) w := fun x y => run_part_int h.u1 (by rw [h.o1]; rfl)
  have p2 : ∀ (x y : Int), (part f2.type #[Value.int .i64 x, .int .i64 y] f2.offset).run P w = .ok (.int .i64 y) w := fun x y => run_part_int h.u2 (by rw [h.o2]; rfl)
  have e1 : ∀ (x y : Int), (Op.equalIn 9999 f1.type (.int .i64 x) (.int .i64 y)).run P w = .ok (x == y) w := fun x y => run_equalInt (m := 9998) h.u1
  have e2 : ∀ (x y : Int), (Op.equalIn 9999 f2.type (.int .i64 x) (.int .i64 y)).run P w = .ok (x == y) w := fun x y => run_equalInt (m := 9998) h.u2
  simp only [Sem.run_bind, run_und h.und, Result.andThen_ok, pairF]
  by_cases c1 : p.1 = q.1
  · by_cases c2 : p.2 = q.2
    · have : q = p := Prod.ext c1.symm c2.symm
      subst this
      simp [run_program, h.held, n1, n2, p1, p2, e1, e2]
    · have hne : ¬ q = p := fun e => c2 (by rw [e])
      simp [run_program, h.held, n1, n2, p1, p2, e1, e2, c1, c2, hne]
  · have hne : ¬ q = p := fun e => c1 (by rw [e])
    simp [run_program, h.held, n1, n2, p1, p2, e1, e2, c1, hne]
theorem keyT_pair {K : TypeId} {f1 f2 : Field} (h : PairT P K f1 f2) : KeyT P K pairF where
  check w em k := by
    show (Instr.checkKey em (9998 + 1 + 1) K _).run P w = _
    rw [Instr.checkKey]
    have n1 : ¬ f1.name = "_" := by simpa using h.n1
    have n2 : ¬ f2.name = "_" := by simpa using h.n2
    have p1 : (part f1.type #[Value.int .i64 k.1, .int .i64 k.2] f1.offset).run P w = .ok (.int .i64 k.1) w := run_part_int h.u1 (by rw [h.o1]; rfl)
    have p2 : (part f2.type #[Value.int .i64 k.1, .int .i64 k.2] f2.offset).run P w = .ok (.int .i64 k.2) w := run_part_int h.u2 (by rw [h.o2]; rfl)
    have e1 := run_checkInt (P := P) (w := w) (em := em) (m := 9998) (x := k.1) h.u1
    have e2 := run_checkInt (P := P) (w := w) (em := em) (m := 9998) (x := k.2) h.u2
    simp only [Sem.run_bind, run_und h.und, Result.andThen_ok, pairF]
    simp [n1, n2, p1, p2, e1, e2]
  find w k ks es hk := by
    have key : ∀ (ks : List (Int × Int)) (es : List MapEntry) (i : Nat), es.map (·.key) = ks.map pairF → (Instr.findAsking K (pairF k) es i).run P w = .ok (findIx k ks es i) w := by
      intro ks
      induction ks with
      | nil => intro es i h; cases es with
        | nil => rfl
        | cons e es => simp at h
      | cons x ks ih => intro es i hh; cases es with
        | nil => simp at hh
        | cons e es =>
          simp only [List.map_cons, List.cons.injEq] at hh
          unfold Instr.findAsking findIx
          rw [hh.1]
          simp only [Sem.run_bind, run_equalPair h, Result.andThen_ok]
          by_cases hx : x = k
          · rw [if_pos hx]; simp [hx]
          · simp only [hx, decide_false, Bool.false_eq_true, if_false]; exact ih es (i + 1) hh.2
    have hnow : Instr.findNow (.struct #[f1, f2]) (pairF k) es 0 = none ∨ es = [] := by
      cases es with
      | nil => exact .inr rfl
      | cons e es => left; unfold Instr.findNow; simp [Instr.sameNow]
    unfold Instr.findKey
    simp only [Sem.run_bind, run_und h.und, Result.andThen_ok]
    rcases hnow with hn | hn
    · rw [hn]; exact key ks es 0 hk
    · subst hn
      cases ks with
      | nil => rfl
      | cons x ks => simp at hk
  stays w k := by
    unfold Instr.keyThatStays
    have : Instr.sameBits 10000 (pairF k) (pairF k) = true := by
      show Instr.sameBits (9999 + 1) (pairF k) (pairF k) = true
      simp [pairF, Instr.sameBits]
    rw [this]; rfl
end
end Go.Sl
