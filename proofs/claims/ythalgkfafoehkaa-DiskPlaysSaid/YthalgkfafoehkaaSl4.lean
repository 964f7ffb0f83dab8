/- The operations on memory: fields, cells, structs, slices, append, copy, make. Holds for every program. -/
import Derived.Test.YthalgkfafoehkaaSl3
import Derived.Laws.Append
import Derived.Laws.AppendOwn
namespace Go.Sl

/-! ### What is asked of the program's types, each a closed fact -/
def oneB (P : Program) (t : TypeId) : Bool :=
  (match P.underlying t with | some (.struct _) | some (.array _ _) | none => false | _ => true) && (match P.info? t with | some i => Nat.beq i.size 1 | none => false)
def aggB (P : Program) (t : TypeId) (n : Nat) : Bool :=
  (match P.underlying t with | some (.struct _) | some (.array _ _) => true | _ => false) && (match P.info? t with | some i => Nat.beq i.size n | none => false)
def fieldB (P : Program) (s : TypeId) (i off : Nat) : Bool :=
  match P.underlying s with
  | some (.struct fs) => (match fs[i]? with
    | some f => Nat.beq f.offset off && (match P.info? f.type with | some q => !Nat.beq q.size 0 | none => false)
    | none => false)
  | _ => false
/-- A slice type: its elements' type, their cells, their bytes. -/
structure SlT (P : Program) (t e sz bytes : Nat) : Prop where
  und : P.underlying t = some (.slice e)
  inf : ((P.info? e).map fun i => (i.size, i.bytes)) = some (sz, bytes)
/-- A type's zero value. -/
def ZeroT (P : Program) (e : TypeId) (z : Value) : Prop := ((P.info? e).map fun i => i.zero) = some (some z)

section
variable {P : Program} {ρ : Fr} {w w' w0 : World} {ops : Array Oper} {op : Op} {ty : TypeId} {pos : String} {af : Array Edge} {g : Option (Nat × Bool)} {l : List Oper} {K : Fr → World → Prop} {v : Value} {L : List HP}

theorem beq_eq {a b : Nat} (h : Nat.beq a b = true) : a = b := Nat.eq_of_beq_eq_true h
theorem SlT.info {t e sz bytes : Nat} (h : SlT P t e sz bytes) : ∃ i, P.info? e = some i ∧ i.size = sz ∧ i.bytes = bytes := by
  have := h.inf
  cases hi : P.info? e with
  | none => rw [hi] at this; cases this
  | some i =>
    rw [hi] at this
    simp only [Option.map_some, Option.some.injEq, Prod.mk.injEq] at this
    exact ⟨i, rfl, this.1, this.2⟩
theorem ZeroT.info {e : TypeId} {z : Value} (h : ZeroT P e z) : ∃ i, P.info? e = some i ∧ i.zero = some z := by
  unfold ZeroT at h
  cases hi : P.info? e with
  | none => rw [hi] at h; cases h
  | some i => rw [hi] at h; exact ⟨i, rfl, by simpa using h⟩

theorem oneB_spec {t : TypeId} (h : oneB P t = true) : (∃ d, P.underlying t = some d ∧ (∀ fs, d ≠ .struct fs) ∧ ∀ n e, d ≠ .array n e) ∧ ∃ i, P.info? t = some i ∧ i.size = 1 := by
  unfold oneB at h
  rw [Bool.and_eq_true] at h
  refine ⟨?_, ?_⟩
  · cases hd : P.underlying t with
    | none => rw [hd] at h; cases h.1
    | some d =>
      refine ⟨d, rfl, ?_, ?_⟩
      · rintro fs rfl; rw [hd] at h; cases h.1
      · rintro n e rfl; rw [hd] at h; cases h.1
  · cases hi : P.info? t with
    | none => rw [hi] at h; cases h.2
    | some i => rw [hi] at h; exact ⟨i, rfl, beq_eq h.2⟩
theorem run_isAgg_one {t : TypeId} (h : oneB P t = true) : (isAgg t).run P w = .ok false w := by
  obtain ⟨⟨d, hd, h1, h2⟩, _⟩ := oneB_spec h
  unfold isAgg
  simp only [Sem.run_bind, run_und hd, Result.andThen_ok]
  cases d <;> first | rfl | exact absurd rfl (h1 _) | exact absurd rfl (h2 _ _)
theorem run_sizeOf {t : TypeId} {i : TypeInfo} (h : P.info? t = some i) : (sizeOf t).run P w = .ok i.size w := by
  simp [sizeOf, run_info h]
theorem aggB_spec {t : TypeId} {n : Nat} (h : aggB P t n = true) : (isAgg t).run P w = .ok true w ∧ (sizeOf t).run P w = .ok n w := by
  unfold aggB at h
  rw [Bool.and_eq_true] at h
  refine ⟨?_, ?_⟩
  · cases hd : P.underlying t with
    | none => rw [hd] at h; cases h.1
    | some d =>
      unfold isAgg
      simp only [Sem.run_bind, run_und hd, Result.andThen_ok]
      rw [hd] at h
      cases d <;> first | rfl | (cases h.1)
  · cases hi : P.info? t with
    | none => rw [hi] at h; cases h.2
    | some i => rw [hi] at h; rw [run_sizeOf hi, beq_eq h.2]

theorem Sat.cell {i b off : Nat} {cs : Array Value} {T : TypeId} {fr : Nat × Nat} (H : Sat w0 w L) (hi : L[i]? = some (blk b (.cells cs T fr))) (hv : cs[off]? = some v) :
    w.cell? ⟨b, off, none⟩ = some v := by
  rw [cell_of_row w b off cs T fr (H.heap hi)]; exact hv
theorem Ext.cell {a : Addr} (h : Ext w w') (hc : w.cell? a = some v) : w'.cell? a = some v := by
  have hlt := block_lt_of_cell hc
  unfold World.cell? at *
  rw [h.2.1 _ hlt]; exact hc

/-! ### Cells and fields -/
theorem x_load {t : TypeId} {x : Operand} {a : Addr} (h1 : oneB P t = true) (ha : ev ρ x = .pointer (some a)) (hc : w.cell? a = some v) : Ev1 P (.load t x) ty ρ w v w := fun _ _ _ _ => by
  simp [execOp, ha, Instr.loadAt, Instr.sureAddr, loadVar, run_isAgg_one h1, load, Sem.run, hc]
theorem x_loadA {t n : Nat} {x : Operand} {b off : Nat} {cs : List Value} (h1 : aggB P t n = true) (ha : ev ρ x = .pointer (some ⟨b, off, none⟩)) (hn : cs.length = n)
    (hc : ∀ j u, cs[j]? = some u → w.cell? ⟨b, off + j, none⟩ = some u) : Ev1 P (.load t x) ty ρ w (.agg cs.toArray) w := fun _ _ _ _ => by
  have hl := run_loadCells_list (P := P) w ⟨b, off, none⟩ cs (fun j u hj => by
    have : (⟨b, off, none⟩ : Addr).add j = ⟨b, off + j, none⟩ := by unfold Addr.add; split <;> simp_all
    rw [this]; exact hc j u hj)
  rw [hn] at hl
  simp [execOp, ha, Instr.loadAt, Instr.sureAddr, loadVar, (aggB_spec (w := w) h1).1, (aggB_spec (w := w) h1).2, hl]
theorem x_field {s i off : Nat} {x : Operand} {b o : Nat} (h1 : fieldB P s i off = true) (ha : ev ρ x = .pointer (some ⟨b, o, none⟩)) :
    Ev1 P (.fieldAddr s x i) ty ρ w (.pointer (some ⟨b, o + off, none⟩)) w := fun _ _ _ _ => by
  unfold fieldB at h1
  split at h1
  · rename_i fs hu
    split at h1
    · rename_i f hf
      rw [Bool.and_eq_true] at h1
      have ho := beq_eq h1.1
      cases hq : P.info? f.type with
      | none => rw [hq] at h1; cases h1.2
      | some q =>
        rw [hq] at h1
        have hz : q.size ≠ 0 := fun e => by simp [e] at h1
        have hadd : (⟨b, o, none⟩ : Addr).add f.offset = ⟨b, o + off, none⟩ := by rw [ho]; unfold Addr.add; split <;> simp_all
        simp [execOp, ha, Instr.fieldAt, run_und hu, hf, Instr.sureAddr, fieldPlace, run_sizeOf hq, hz, hadd]
    · cases h1
  · cases h1
theorem add_at (b o j : Nat) : (⟨b, o, none⟩ : Addr).add j = ⟨b, o + j, none⟩ := by unfold Addr.add; split <;> simp_all

theorem But.setCell {b off : Nat} {cs : Array Value} {T : TypeId} (v : Value) (hb : w.heap[b]? = some (.cells cs T (0, 0))) :
    But w (w.setCell ⟨b, off, none⟩ v) b ∧ (w.setCell ⟨b, off, none⟩ v).heap[b]? = some (.cells (cs.setIfInBounds off v) T (0, 0)) :=
  ⟨⟨by simp [World.setCell], fun k hk => heap_setCell_other w _ k v hk, rfl, rfl, rfl⟩, heap_setCell_same w b off cs T v hb⟩
theorem x_store {t : TypeId} {a x : Operand} {i b off : Nat} {cs : Array Value} {T : TypeId} (h1 : oneB P t = true) (ha : ev ρ a = .pointer (some ⟨b, off, none⟩)) (hx : ev ρ x = v) (hv : v.oneCell' = true)
    (H : Sat w0 w L) (hi : L[i]? = some (blk b (.cells cs T (0, 0)))) (ho : off < cs.size) :
    ∃ w', Do1 P (.store t a x) ty ρ w w' ∧ Sat w0 w' (L.set i (blk b (.cells (cs.setIfInBounds off v) T (0, 0)))) := by
  obtain ⟨_, q, hq, hz⟩ := oneB_spec h1
  have hb := H.heap hi
  have hc : w.cell? ⟨b, off, none⟩ = some cs[off] := by rw [cell_of_row w b off cs T _ hb]; simp [ho]
  have hf : w.frozen? ⟨b, off, none⟩ = false := frozen_of_row w b off cs T hb
  have hsz : v.cells = #[v] := by cases v <;> first | rfl | cases hv
  refine ⟨w.setCell ⟨b, off, none⟩ v, fun _ _ _ _ => ?_, H.set hi (But.setCell v hb).1 (But.setCell v hb).2⟩
  have hst : (store (⟨b, off, none⟩ : Addr) v).run P w = .ok () (w.setCell ⟨b, off, none⟩ v) := by
    rw [run_store P w _ v _ hv, hc]
    simp [hf]
  have hadd0 : (⟨b, off, none⟩ : Addr).add 0 = ⟨b, off, none⟩ := rfl
  simp [execOp, ha, hx, Instr.storeAt, Instr.sureAddr, storeVar, hsz, run_sizeOf hq, hz, storeCells, hadd0, hst]
theorem s_store {t : TypeId} {a x : Operand} {i b off : Nat} {cs : Array Value} {T : TypeId} (hw : wantedR ops ρ ⟨none, .store t a x, ty, pos, af, g⟩ = true) (h1 : oneB P t = true)
    (ha : ev ρ a = .pointer (some ⟨b, off, none⟩)) (hx : ev ρ x = v) (hv : v.oneCell' = true)
    (H : Sat w0 w L) (hi : L[i]? = some (blk b (.cells cs T (0, 0)))) (ho : Nat.ble (off + 1) cs.size = true)
    (h : ∀ w', Sat w0 w' (L.set i (blk b (.cells (cs.setIfInBounds off v) T (0, 0)))) → Seq1 P ops l ρ w' K) : Seq1 P ops (⟨none, .store t a x, ty, pos, af, g⟩ :: l) ρ w K := by
  obtain ⟨w', hd, hs⟩ := x_store (ty := ty) h1 ha hx hv H hi (Nat.le_of_ble_eq_true ho)
  exact s_do hw hd (h w' hs)

/-! ### New blocks -/
theorem run_newVar {t : TypeId} (v : Value) : (newVar t v).run P w = .ok ⟨w.heap.size, 0, none⟩ (w.alloc (.cells v.cells t)) := by
  simp [newVar, newRow]
theorem run_newRow {t : TypeId} (cs : Array Value) : (newRow t cs).run P w = .ok ⟨w.heap.size, 0, none⟩ (w.alloc (.cells cs t)) := by
  simp [newRow]
theorem s_box {t : TypeId} {x : Operand} {d : Nat} (hw : wantedR ops ρ ⟨some d, .box t x, ty, pos, af, g⟩ = true) (hx : ev ρ x = v) (H : Sat w0 w L)
    (h : ∀ b w', Sat w0 w' (L ++ [blk b (.cells v.cells t (0, 0))]) → Seq1 P ops l (upd ρ d (.pointer (some ⟨b, 0, none⟩))) w' K) : Seq1 P ops (⟨some d, .box t x, ty, pos, af, g⟩ :: l) ρ w K := by
  refine s_val hw (fun _ _ _ _ => ?_) (h w.heap.size (w.alloc (.cells v.cells t)) (H.alloc _))
  simp [execOp, hx, Instr.box, run_newVar]
theorem s_alloc {t : TypeId} {z : Value} {d : Nat} (hw : wantedR ops ρ ⟨some d, .alloc t, ty, pos, af, g⟩ = true) (hz : ZeroT P t z) (H : Sat w0 w L)
    (h : ∀ b w', Sat w0 w' (L ++ [blk b (.cells z.cells t (0, 0))]) → Seq1 P ops l (upd ρ d (.pointer (some ⟨b, 0, none⟩))) w' K) : Seq1 P ops (⟨some d, .alloc t, ty, pos, af, g⟩ :: l) ρ w K := by
  refine s_val hw (fun _ _ _ _ => ?_) (h w.heap.size (w.alloc (.cells z.cells t)) (H.alloc _))
  obtain ⟨i, hi, hz⟩ := hz.info
  simp [execOp, Instr.alloc, zeroValue, run_info hi, hz, run_newVar]
theorem s_makeMap {t : TypeId} {d : Nat} (hw : wantedR ops ρ ⟨some d, .makeMap t none, ty, pos, af, g⟩ = true) (H : Sat w0 w L)
    (h : ∀ b w', Sat w0 w' (L ++ [blk b (.map #[] 0)]) → Seq1 P ops l (upd ρ d (.map (some b))) w' K) : Seq1 P ops (⟨some d, .makeMap t none, ty, pos, af, g⟩ :: l) ρ w K := by
  refine s_val hw (fun _ _ _ _ => ?_) (h w.heap.size (w.alloc (.map #[] 0)) (H.alloc _))
  simp [execOp, Instr.makeMap]
/-- make of a slice: all zero values. -/
theorem s_makeSlice {t e bytes : TypeId} {z : Value} {a b : Operand} {n c : Int} {d : Nat} (hw : wantedR ops ρ ⟨some d, .makeSlice t a b, ty, pos, af, g⟩ = true) (ht : SlT P t e 1 bytes) (hz : ZeroT P e z) (hz1 : z.cells = #[z])
    (ha : ev ρ a = .int .i64 n) (hb : ev ρ b = .int .i64 c) (h0 : 0 ≤ n) (h1 : n ≤ c) (h2 : c * bytes ≤ 281474976710656) (h3 : c ≤ 9223372036854775807) (H : Sat w0 w L)
    (h : ∀ b w', Sat w0 w' (L ++ [blk b (.cells (List.replicate c.toNat z).toArray e (0, 0))]) → Seq1 P ops l (upd ρ d (.slice (some ⟨b, 0, none⟩) n.toNat c.toNat)) w' K) :
    Seq1 P ops (⟨some d, .makeSlice t a b, ty, pos, af, g⟩ :: l) ρ w K := by
  obtain ⟨i, hi, hs, hby⟩ := ht.info
  obtain ⟨i', hi', hz⟩ := hz.info
  rw [hi] at hi'; injection hi' with hi'; subst hi'
  refine s_val hw (fun _ _ _ _ => ?_) (h w.heap.size (w.alloc (.cells (List.replicate c.toNat z).toArray e)) (H.alloc _))
  have e1 : IntKind.i64.wrap n = n := IntWalk.i64_in _ (by omega)
  have e2 : IntKind.i64.wrap c = c := IntWalk.i64_in _ (by omega)
  have e3 : ¬ (c < 0) := by omega
  have e4 : ¬ (n < 0) := by omega
  have e5 : ¬ (n > c) := by omega
  have e6 : ¬ ((bytes : Int) * c > 281474976710656) := by rw [Int.mul_comm]; omega
  have e7 : ¬ (c < n) := by omega
  have e8 : ¬ (281474976710656 < (bytes : Int) * c) := by rw [Int.mul_comm]; omega
  have hcells : (Array.range c.toNat).map (fun _ => z) = (List.replicate c.toNat z).toArray := by
    apply Array.ext'
    simp [List.map_const']
  have hroom : ∀ (q : Nat), (askRoom q).run P w = .ok () w := by
    intro q
    unfold askRoom
    split <;> simp
  by_cases hc0 : c.toNat = 0
  · simp [execOp, ha, hb, Instr.makeSlice, run_und ht.und, asInt, asIntOf, run_info hi, e1, e2, e3, e4, e5, hby, e6, e7, e8, hroom, run_sizeOf hi, hs, hc0, run_newRow]
    have h00 : Array.range 0 = #[] := Array.eq_empty_of_size_eq_zero (by simp)
    simp [h00]
  · have hmap : (Array.range c.toNat).map (fun x => (#[z] : Array Value)[x % 1]!) = (List.replicate c.toNat z).toArray := by
      rw [← hcells]
      apply Array.map_congr_left
      intro x _
      simp [Nat.mod_one]
    simp [execOp, ha, hb, Instr.makeSlice, run_und ht.und, asInt, asIntOf, run_info hi, e1, e2, e3, e4, e5, hby, e6, e7, e8, hroom, run_sizeOf hi, hs, hc0, zeroValue, hz, hz1, run_newRow, Nat.mod_one]
    simpa [Nat.mod_one] using congrArg (fun q => (Result.ok (Next.value (.slice (some ⟨w.heap.size, 0, none⟩) n.toNat c.toNat)) (w.alloc (.cells q e)) : Result Next)) hcells
end
end Go.Sl
