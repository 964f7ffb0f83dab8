/- copy; struct values; comparisons with nil; slices of written-out elements. Holds for every program. -/
import Derived.Test.YthalgkfafoehkaaSl5
namespace Go.Sl
section
variable {P : Program} {ρ : Fr} {w w' w0 : World} {ops : Array Oper} {op : Op} {ty : TypeId} {pos : String} {af : Array Edge} {g : Option (Nat × Bool)} {l : List Oper} {K : Fr → World → Prop} {v : Value} {L : List HP}
variable {a a' : Option Addr} {n n' cap cap' sz e t bytes : Nat} {cs ds : List Value}

theorem Rd.prefix (hr : Rd w a n cap sz cs) {m : Nat} (hm : m ≤ n) : Rd w a m cap sz (cs.take (m * sz)) := by
  refine ⟨?_, Nat.le_trans hm hr.2.1, fun h0 => ?_⟩
  · rw [List.length_take, hr.1]; exact Nat.min_eq_left (Nat.mul_le_mul_right _ hm)
  · obtain ⟨b, off, ha, hc⟩ := hr.2.2 (by omega)
    refine ⟨b, off, ha, fun j u hj => hc j u ?_⟩
    rw [List.getElem?_take] at hj
    split at hj
    · exact hj
    · cases hj
theorem run_firstPre {m : Nat} (hr : Rd w a n cap sz cs) (hm : m ≤ n) : (Builtin.firstCells sz m (.slice a n cap)).run P w = .ok (cs.take (m * sz)).toArray w := by
  have h := run_firstRd (P := P) (m := m) (hr.prefix hm) rfl
  cases a <;> exact h

/-- What copy leaves of the destination's row. -/
def pasted (cs : List Value) (k : Nat) (ds : List Value) : List Value := cs.take k ++ ds ++ cs.drop (k + ds.length)
theorem copy_sat {i k : Nat} {a2 : Option Addr} {m c2 t2 : Nat} {ats : Array TypeId} (ht : SlT P t e sz bytes) (H : Sat w0 w L) (hi : L[i]? = some (slo e sz a n cap cs))
    (hs : SubOf a' n' a k) (hk : k + n' * sz ≤ cs.length) (hx : Rd w a2 m c2 sz ds) (h1 : ∀ u ∈ ds, u.oneCell' = true) (hats : ats = #[t, t2]) :
    ∃ w', (Builtin.copy_ ats ty #[.slice a' n' cap', .slice a2 m c2]).run P w = .ok (.int .i64 (min m n' : Nat)) w' ∧ Sat w0 w' (L.set i (slo e sz a n cap (pasted cs k (ds.take (min m n' * sz))))) := by
  subst hats
  obtain ⟨q, hq, hsz, hb⟩ := ht.info
  have hrd := H.rd hi
  have hf := run_firstPre (P := P) (m := min m n') hx (Nat.min_le_left _ _)
  have hmin : Nat.min m n' = min m n' := rfl
  rcases Nat.eq_zero_or_pos (min m n' * sz) with h0 | h0
  · rw [h0, List.take_zero] at hf
    refine ⟨w, ?_, ?_⟩
    · cases a' with
      | none => simp [Builtin.copy_, run_und ht.und, Builtin.lenOf, run_sizeOf hq, hsz, hmin, hf, goInt]
      | some p => simp [Builtin.copy_, run_und ht.und, Builtin.lenOf, run_sizeOf hq, hsz, hmin, hf, goInt, storeCells]
    · have : L.set i (slo e sz a n cap (pasted cs k (ds.take (min m n' * sz)))) = L := by
        obtain ⟨hlt, he⟩ := List.getElem?_eq_some_iff.1 hi
        rw [h0]
        simp only [pasted, List.take_zero, List.append_nil, List.length_nil, Nat.add_zero, List.take_append_drop]
        rw [← he]; simp
      rw [this]; exact H
  · have hn' : 0 < n' := by
      rcases Nat.eq_zero_or_pos n' with q | q
      · rw [q] at h0; simp at h0
      · exact q
    have hszp : 0 < sz := by
      rcases Nat.eq_zero_or_pos sz with q | q
      · rw [q] at h0; simp at h0
      · exact q
    obtain ⟨b, off, ha, ha'⟩ := hs hn'
    have hn : 0 < n := by
      rcases Nat.eq_zero_or_pos n with q | q
      · have : 0 < n' * sz := Nat.mul_pos hn' hszp
        rw [hrd.1, q, Nat.zero_mul] at hk; omega
      · exact q
    obtain ⟨b2, xs, ha2, H1, hxs, htk, hc⟩ := H.ofSlo hi hn
    rw [ha] at ha2
    injection ha2 with e1
    injection e1 with e1 e2
    subst e1 e2
    have hbw := H1.heap (get_set hi _)
    have hdl : (ds.take (min m n' * sz)).length = min m n' * sz := by
      rw [List.length_take, hx.1]; exact Nat.min_eq_left (Nat.mul_le_mul_right _ (Nat.min_le_left _ _))
    have hle1 : min m n' * sz ≤ n' * sz := Nat.mul_le_mul_right _ (Nat.min_le_right _ _)
    have hle2 : n * sz ≤ cap * sz := Nat.mul_le_mul_right _ hc
    have hfit : k + 0 + (ds.take (min m n' * sz)).length ≤ xs.size := by
      rw [hdl, hxs]; rw [hrd.1] at hk; omega
    have hst := run_storeCells_at P b k e (ds.take (min m n' * sz)) 0 xs w hbw hfit (fun u hu => h1 u (List.mem_of_mem_take hu))
    refine ⟨w.setRow b (xs.toList.take (k + 0) ++ (ds.take (min m n' * sz)) ++ xs.toList.drop (k + 0 + (ds.take (min m n' * sz)).length)).toArray, ?_, ?_⟩
    · subst ha'
      have e0 : (0 + k : Nat) = k := Nat.zero_add k
      simp only [Nat.add_zero] at hst ⊢
      simp [Builtin.copy_, run_und ht.und, Builtin.lenOf, run_sizeOf hq, hsz, hmin, hf, goInt, hst]
    · have hbut : But w (w.setRow b (xs.toList.take (k + 0) ++ (ds.take (min m n' * sz)) ++ xs.toList.drop (k + 0 + (ds.take (min m n' * sz)).length)).toArray) b := by
        refine ⟨by simp [World.setRow], fun j hj => ?_, rfl, rfl, rfl⟩
        simp [World.setRow, Array.getElem?_modify, Ne.symm hj]
      have hnew := setRow_heap w b xs (xs.toList.take (k + 0) ++ (ds.take (min m n' * sz)) ++ xs.toList.drop (k + 0 + (ds.take (min m n' * sz)).length)).toArray e (0, 0) hbw
      have H2 := H1.set (get_set hi _) hbut hnew
      rw [set_set] at H2
      rw [hrd.1] at hk
      have H3 := H2.toSlo (i := i) (n := n) (cap := cap) (sz := sz) (cs := pasted cs k (ds.take (min m n' * sz))) (get_set hi _) hc (by
          have : xs.toList.length = cap * sz := by simpa using hxs
          simp only [List.size_toArray, List.length_append, List.length_take, List.length_drop, Nat.add_zero, this]
          rw [← List.length_take, hdl]
          omega) (by
          have hxl : xs.toList.length = cap * sz := by simpa using hxs
          unfold pasted
          simp only [Nat.add_zero]
          rw [← htk]
          rw [List.take_append, List.take_append]
          have hl1 : (xs.toList.take k).length = k := by rw [List.length_take, hxl]; omega
          have hl2 : (xs.toList.take k ++ ds.take (min m n' * sz)).length = k + min m n' * sz := by rw [List.length_append, hl1, hdl]
          rw [hl2, hl1, hdl, List.take_take, List.take_take, List.take_take, List.drop_take]
          congr 1
          · congr 1
            · congr 1; omega
            · congr 1; omega)
      rw [set_set] at H3
      rw [ha]
      exact H3
theorem s_copy {x y : Operand} {i k : Nat} {d : Nat} {a2 : Option Addr} {m c2 t2 : Nat} (hw : wantedR ops ρ ⟨some d, .call ⟨.builtin .copy, #[x, y], #[t, t2]⟩, ty, pos, af, g⟩ = true) (ht : SlT P t e sz bytes)
    (hx : ev ρ x = .slice a' n' cap') (hy : ev ρ y = .slice a2 m c2) (H : Sat w0 w L) (hi : L[i]? = some (slo e sz a n cap cs))
    (hs : SubOf a' n' a k) (hk : k + n' * sz ≤ cs.length) (hr : Rd w a2 m c2 sz ds) (h1 : ∀ u ∈ ds, u.oneCell' = true)
    (h : ∀ w', Sat w0 w' (L.set i (slo e sz a n cap (pasted cs k (ds.take (min m n' * sz))))) → Seq1 P ops l (upd ρ d (.int .i64 (min m n' : Nat))) w' K) :
    Seq1 P ops (⟨some d, .call ⟨.builtin .copy, #[x, y], #[t, t2]⟩, ty, pos, af, g⟩ :: l) ρ w K := by
  obtain ⟨w', hrun, H'⟩ := copy_sat (ty := ty) (cap' := cap') (t2 := t2) ht H hi hs hk hr h1 rfl
  refine s_val hw (fun _ _ _ _ => ?_) (h w' H')
  simp [execOp, resolve, hx, hy, invoke, builtin, hrun]

/-! ### Struct values -/
/-- A struct type: its zero cells, and where its fields lie. -/
structure StT (P : Program) (t : TypeId) (z : Array Value) (pl : Array (Nat × Nat)) : Prop where
  zero : ((P.info? t).map fun i => i.zero) = some (some (.agg z))
  fields : (match P.underlying t with | some (.struct fs) => some (fs.map fun f => (f.offset, (P.info? f.type).map (·.size))) | _ => none) = some (pl.map fun p => (p.1, some p.2))
theorem run_map_ok {α β : Type} {s : Sem α} {x : α} {f : α → β} (h : s.run P w = .ok x w') : (f <$> s).run P w = .ok (f x) w' := by
  show (s.bind fun y => Sem.pure (f y)).run P w = _
  have e : (s >>= fun y => Sem.pure (f y)).run P w = (s.run P w).andThen fun y w => (Sem.pure (f y)).run P w := Sem.run_bind ..
  have e2 : (s.bind fun y => Sem.pure (f y)).run P w = (s >>= fun y => Sem.pure (f y)).run P w := rfl
  rw [e2, e, h]
  rfl
theorem run_places (fs : Array Field) (pl : Array (Nat × Nat)) (h : fs.map (fun f => (f.offset, (P.info? f.type).map (·.size))) = pl.map fun p => (p.1, some p.2)) :
    (fs.mapM (fun f => do pure (f.offset, ← sizeOf f.type) : Field → Sem (Nat × Nat))).run P w = .ok pl w := by
  obtain ⟨fs⟩ := fs
  obtain ⟨pl⟩ := pl
  simp only [List.map_toArray, Array.mk.injEq] at h
  have key : ∀ (fs : List Field) (pl : List (Nat × Nat)), fs.map (fun f => (f.offset, (P.info? f.type).map (·.size))) = pl.map (fun p => (p.1, some p.2)) →
      (fs.mapM (fun f => do pure (f.offset, ← sizeOf f.type) : Field → Sem (Nat × Nat))).run P w = .ok pl w := by
    intro fs
    induction fs with
    | nil => intro pl h; cases pl with
      | nil => simp
      | cons p pl => simp at h
    | cons f fs ih => intro pl h; cases pl with
      | nil => simp at h
      | cons p pl =>
        simp only [List.map_cons, List.cons.injEq, Prod.mk.injEq] at h
        obtain ⟨⟨h1, h2⟩, h3⟩ := h
        cases hq : P.info? f.type with
        | none => rw [hq] at h2; cases h2
        | some q =>
          rw [hq] at h2
          simp only [Option.map_some, Option.some.injEq] at h2
          simp only [List.mapM_cons, Sem.run_bind, run_sizeOf hq, Result.andThen_ok, Sem.run_pure, ih pl h3, h1, h2]
  have h2 := key fs pl h
  rw [List.mapM_toArray]
  exact run_map_ok h2
def putL : List Value → Nat → List Value → List Value
  | cs, _, [] => cs
  | cs, o, x :: xs => putL (cs.set o x) (o + 1) xs
def fillL (pl : List (Nat × Nat)) : List Value → List (Nat × Value) → Option (List Value)
  | cs, [] => some cs
  | cs, (i, v) :: rest => match pl[i]? with
    | none => none
    | some (off, size) => bif Nat.beq v.cells.size size && Nat.ble (off + size) cs.length then fillL pl (putL cs off v.cells.toList) rest else none
theorem putL_length (xs : List Value) : ∀ (cs : List Value) (o : Nat), (putL cs o xs).length = cs.length := by
  induction xs with
  | nil => intro cs o; rfl
  | cons x xs ih => intro cs o; rw [putL, ih]; simp
theorem putL_fold (xs : List Value) : ∀ (cs : List Value) (o j : Nat), (xs.zipIdx j).foldl (fun (a : Array Value) (x : Value × Nat) => match x with | (c, k) => a.setIfInBounds (o + k) c) cs.toArray = (putL cs (o + j) xs).toArray := by
  induction xs with
  | nil => intro cs o j; rfl
  | cons x xs ih =>
    intro cs o j
    rw [List.zipIdx_cons, List.foldl_cons, putL]
    show (xs.zipIdx (j + 1)).foldl _ (cs.toArray.setIfInBounds (o + j) x) = _
    rw [show cs.toArray.setIfInBounds (o + j) x = (cs.set (o + j) x).toArray by simp, ih (cs.set (o + j) x) o (j + 1), Nat.add_assoc]
theorem fillL_spec {pl : List (Nat × Nat)} : ∀ (ps : List (Nat × Value)) (cs ds : List Value), fillL pl cs ps = some ds → Instr.fill (pl.toArray[·]?) cs.toArray ps = some ds.toArray := by
  intro ps
  induction ps with
  | nil => intro cs ds h; simp only [fillL, Option.some.injEq] at h; subst h; rfl
  | cons p ps ih =>
    obtain ⟨i, v⟩ := p
    intro cs ds h
    unfold fillL at h
    unfold Instr.fill
    have e : pl.toArray[i]? = pl[i]? := by simp
    rw [e]
    cases hp : pl[i]? with
    | none => rw [hp] at h; cases h
    | some q =>
      obtain ⟨off, size⟩ := q
      rw [hp] at h
      simp only at h ⊢
      cases hb : (Nat.beq v.cells.size size && Nat.ble (off + size) cs.length) with
      | false => rw [hb] at h; cases h
      | true =>
        rw [hb] at h
        rw [Bool.and_eq_true] at hb
        have h1 := Nat.eq_of_beq_eq_true hb.1
        have h2 := Nat.le_of_ble_eq_true hb.2
        have hcond : (decide (v.cells.size ≠ size) || decide (off + v.cells.size > cs.toArray.size)) = false := by
          simp [h1]; omega
        simp only [hcond, Bool.false_eq_true, if_false]
        have hfold : (v.cells.zipIdx.foldl (fun (cs : Array Value) (x : Value × Nat) => match x with | (c, j) => cs.setIfInBounds (off + j) c) cs.toArray) = (putL cs off v.cells.toList).toArray := by
          rw [← Array.foldl_toList, Array.toList_zipIdx]
          exact putL_fold v.cells.toList cs off 0
        rw [hfold]
        exact ih _ _ h
theorem x_build {parts : Array (Nat × Operand)} {ps : List (Nat × Value)} {z cells : List Value} {pl : List (Nat × Nat)} (ht : StT P t z.toArray pl.toArray) (hp : (parts.toList.map fun x => (x.1, ev ρ x.2)) = ps)
    (hf : fillL pl z ps = some cells) : Ev1 P (.build t parts) ty ρ w (.agg cells.toArray) w := fun _ _ _ _ => by
  subst hp
  have hf' := fillL_spec _ _ _ hf
  cases hu : P.underlying t with
  | none => have := ht.fields; rw [hu] at this; cases this
  | some d =>
    cases d with
    | struct fs =>
      have hfs := ht.fields
      rw [hu] at hfs
      simp only [Option.some.injEq] at hfs
      have hz := ht.zero
      cases hi : P.info? t with
      | none => rw [hi] at hz; cases hz
      | some i =>
        rw [hi] at hz
        simp only [Option.map_some, Option.some.injEq] at hz
        have hpl := run_places (P := P) (w := w) fs pl.toArray hfs
        have hcells : (Value.agg z.toArray).cells = z.toArray := rfl
        simp only [execOp, Instr.build, zeroValue, Sem.run_bind, run_info hi, Result.andThen_ok, hz, run_und hu, Sem.run_pure, hcells, hpl]
        have e : (Array.map (fun x => (x.1, ev ρ x.2)) parts).toList = parts.toList.map fun x => (x.1, ev ρ x.2) := by simp
        have hf2 : Instr.fill (fun x => pl.toArray[x]?) z.toArray (Array.map (fun x => (x.1, ev ρ x.2)) parts).toList = some cells.toArray := by rw [e]; exact hf'
        rw [hf2]
        rfl
    | _ => have := ht.fields; rw [hu] at this; cases this

/-! ### Comparisons with nil -/
theorem run_equalPtr {t : TypeId} {d : TypeId} (p : Option Addr) (hu : P.underlying t = some (.pointer d)) : (Op.equal t (.pointer p) (.pointer none)).run P w = .ok p.isNone w := by
  show (Op.equalIn (9999 + 1) t (.pointer p) (.pointer none)).run P w = _
  rw [Op.equalIn]
  simp only [Sem.run_bind, run_und hu, Result.andThen_ok]
  cases p <;> rfl
theorem run_equalSl {t : TypeId} (a : Option Addr) (n cap : Nat) (hu : P.underlying t = some (.slice e)) : (Op.equal t (.slice a n cap) (.slice none 0 0)).run P w = .ok a.isNone w := by
  show (Op.equalIn (9999 + 1) t (.slice a n cap) (.slice none 0 0)).run P w = _
  rw [Op.equalIn]
  simp only [Sem.run_bind, run_und hu, Result.andThen_ok]
  cases a <;> rfl
theorem run_equalMap {t : TypeId} {k d : TypeId} (p : Option Nat) (hu : P.underlying t = some (.map k d)) : (Op.equal t (.map p) (.map none)).run P w = .ok p.isNone w := by
  show (Op.equalIn (9999 + 1) t (.map p) (.map none)).run P w = _
  rw [Op.equalIn]
  simp only [Sem.run_bind, run_und hu, Result.andThen_ok]
  cases p <;> rfl
theorem run_equalBool {t : TypeId} (p q : Bool) (hu : P.underlying t = some .bool) : (Op.equal t (.bool p) (.bool q)).run P w = .ok (p == q) w := by
  show (Op.equalIn (9999 + 1) t (.bool p) (.bool q)).run P w = _
  rw [Op.equalIn]
  simp only [Sem.run_bind, run_und hu, Result.andThen_ok]
  rfl
def ptrB (P : Program) (t : TypeId) : Bool := match P.underlying t with | some (.pointer _) => true | _ => false
def slcB (P : Program) (t : TypeId) : Bool := match P.underlying t with | some (.slice _) => true | _ => false
def mapB (P : Program) (t : TypeId) : Bool := match P.underlying t with | some (.map _ _) => true | _ => false
theorem ptrB_spec {t : TypeId} (h : ptrB P t = true) : ∃ d, P.underlying t = some (.pointer d) := by
  unfold ptrB at h
  split at h
  · rename_i d hd; exact ⟨d, hd⟩
  · cases h
theorem slcB_spec {t : TypeId} (h : slcB P t = true) : ∃ d, P.underlying t = some (.slice d) := by
  unfold slcB at h
  split at h
  · rename_i d hd; exact ⟨d, hd⟩
  · cases h
theorem mapB_spec {t : TypeId} (h : mapB P t = true) : ∃ k d, P.underlying t = some (.map k d) := by
  unfold mapB at h
  split at h
  · rename_i k d hd; exact ⟨k, d, hd⟩
  · cases h
theorem x_eqlPtrNil {x : Operand} {yt : TypeId} {p : Option Addr} (hu : ptrB P t = true) (hx : ev ρ x = (.pointer p)) : Ev1 P (.binOp .eql t x (.const (.pointer none)) yt) ty ρ w (.bool p.isNone) w := fun _ _ _ _ => by
  obtain ⟨_, hu⟩ := ptrB_spec hu
  have he := run_equalPtr (P := P) (w := w) p hu
  have hb : (binOp .eql t (.pointer p) (.pointer none)).run P w = .ok (.bool p.isNone) w := by
    show (do pure (Value.bool (← Op.equal t (.pointer p) (.pointer none))) : Sem Value).run P w = _
    simp only [Sem.run_bind, he, Result.andThen_ok]
    rfl
  have hy : ev ρ (.const (.pointer none)) = (.pointer none) := rfl
  have hg : (eqGuard .eql t x (.const (.pointer none)) (.pointer p) (.pointer none)).run P w = .ok () w := by simp [eqGuard]
  simp only [execOp, hx, hy, Sem.run_bind, hg, hb, Result.andThen_ok, Sem.run_pure]
theorem x_neqPtrNil {x : Operand} {yt : TypeId} {p : Option Addr} (hu : ptrB P t = true) (hx : ev ρ x = (.pointer p)) : Ev1 P (.binOp .neq t x (.const (.pointer none)) yt) ty ρ w (.bool (!p.isNone)) w := fun _ _ _ _ => by
  obtain ⟨_, hu⟩ := ptrB_spec hu
  have he := run_equalPtr (P := P) (w := w) p hu
  have hb : (binOp .neq t (.pointer p) (.pointer none)).run P w = .ok (.bool (!p.isNone)) w := by
    show (do pure (Value.bool (!(← Op.equal t (.pointer p) (.pointer none)))) : Sem Value).run P w = _
    simp only [Sem.run_bind, he, Result.andThen_ok]
    rfl
  have hy : ev ρ (.const (.pointer none)) = (.pointer none) := rfl
  have hg : (eqGuard .neq t x (.const (.pointer none)) (.pointer p) (.pointer none)).run P w = .ok () w := by simp [eqGuard]
  simp only [execOp, hx, hy, Sem.run_bind, hg, hb, Result.andThen_ok, Sem.run_pure]
theorem x_eqlSlNil {x : Operand} {yt : TypeId} (hu : slcB P t = true) (hx : ev ρ x = (.slice a n cap)) : Ev1 P (.binOp .eql t x (.const (.slice none 0 0)) yt) ty ρ w (.bool a.isNone) w := fun _ _ _ _ => by
  obtain ⟨_, hu⟩ := slcB_spec hu
  have he := run_equalSl (P := P) (w := w) a n cap hu
  have hb : (binOp .eql t (.slice a n cap) (.slice none 0 0)).run P w = .ok (.bool a.isNone) w := by
    show (do pure (Value.bool (← Op.equal t (.slice a n cap) (.slice none 0 0))) : Sem Value).run P w = _
    simp only [Sem.run_bind, he, Result.andThen_ok]
    rfl
  have hy : ev ρ (.const (.slice none 0 0)) = (.slice none 0 0) := rfl
  have hg : (eqGuard .eql t x (.const (.slice none 0 0)) (.slice a n cap) (.slice none 0 0)).run P w = .ok () w := by simp [eqGuard]
  simp only [execOp, hx, hy, Sem.run_bind, hg, hb, Result.andThen_ok, Sem.run_pure]
theorem x_neqSlNil {x : Operand} {yt : TypeId} (hu : slcB P t = true) (hx : ev ρ x = (.slice a n cap)) : Ev1 P (.binOp .neq t x (.const (.slice none 0 0)) yt) ty ρ w (.bool (!a.isNone)) w := fun _ _ _ _ => by
  obtain ⟨_, hu⟩ := slcB_spec hu
  have he := run_equalSl (P := P) (w := w) a n cap hu
  have hb : (binOp .neq t (.slice a n cap) (.slice none 0 0)).run P w = .ok (.bool (!a.isNone)) w := by
    show (do pure (Value.bool (!(← Op.equal t (.slice a n cap) (.slice none 0 0)))) : Sem Value).run P w = _
    simp only [Sem.run_bind, he, Result.andThen_ok]
    rfl
  have hy : ev ρ (.const (.slice none 0 0)) = (.slice none 0 0) := rfl
  have hg : (eqGuard .neq t x (.const (.slice none 0 0)) (.slice a n cap) (.slice none 0 0)).run P w = .ok () w := by simp [eqGuard]
  simp only [execOp, hx, hy, Sem.run_bind, hg, hb, Result.andThen_ok, Sem.run_pure]
theorem x_eqlMapNil {x : Operand} {yt : TypeId} {p : Option Nat} (hu : mapB P t = true) (hx : ev ρ x = (.map p)) : Ev1 P (.binOp .eql t x (.const (.map none)) yt) ty ρ w (.bool p.isNone) w := fun _ _ _ _ => by
  obtain ⟨_, _, hu⟩ := mapB_spec hu
  have he := run_equalMap (P := P) (w := w) p hu
  have hb : (binOp .eql t (.map p) (.map none)).run P w = .ok (.bool p.isNone) w := by
    show (do pure (Value.bool (← Op.equal t (.map p) (.map none))) : Sem Value).run P w = _
    simp only [Sem.run_bind, he, Result.andThen_ok]
    rfl
  have hy : ev ρ (.const (.map none)) = (.map none) := rfl
  have hg : (eqGuard .eql t x (.const (.map none)) (.map p) (.map none)).run P w = .ok () w := by simp [eqGuard]
  simp only [execOp, hx, hy, Sem.run_bind, hg, hb, Result.andThen_ok, Sem.run_pure]
theorem x_neqMapNil {x : Operand} {yt : TypeId} {p : Option Nat} (hu : mapB P t = true) (hx : ev ρ x = (.map p)) : Ev1 P (.binOp .neq t x (.const (.map none)) yt) ty ρ w (.bool (!p.isNone)) w := fun _ _ _ _ => by
  obtain ⟨_, _, hu⟩ := mapB_spec hu
  have he := run_equalMap (P := P) (w := w) p hu
  have hb : (binOp .neq t (.map p) (.map none)).run P w = .ok (.bool (!p.isNone)) w := by
    show (do pure (Value.bool (!(← Op.equal t (.map p) (.map none)))) : Sem Value).run P w = _
    simp only [Sem.run_bind, he, Result.andThen_ok]
    rfl
  have hy : ev ρ (.const (.map none)) = (.map none) := rfl
  have hg : (eqGuard .neq t x (.const (.map none)) (.map p) (.map none)).run P w = .ok () w := by simp [eqGuard]
  simp only [execOp, hx, hy, Sem.run_bind, hg, hb, Result.andThen_ok, Sem.run_pure]
theorem x_eqlBool {x y : Operand} {yt : TypeId} {p q : Bool} (hu : P.underlying t = some .bool) (hx : ev ρ x = (.bool p)) (hy : ev ρ y = .bool q) : Ev1 P (.binOp .eql t x y yt) ty ρ w (.bool (p == q)) w := fun _ _ _ _ => by
  have he := run_equalBool (P := P) (w := w) p q hu
  have hb : (binOp .eql t (.bool p) (.bool q)).run P w = .ok (.bool (p == q)) w := by
    show (do pure (Value.bool (← Op.equal t (.bool p) (.bool q))) : Sem Value).run P w = _
    simp only [Sem.run_bind, he, Result.andThen_ok]
    rfl
  have hg : (eqGuard .eql t x y (.bool p) (.bool q)).run P w = .ok () w := by simp [eqGuard]
  simp only [execOp, hx, hy, Sem.run_bind, hg, hb, Result.andThen_ok, Sem.run_pure]
theorem x_neqBool {x y : Operand} {yt : TypeId} {p q : Bool} (hu : P.underlying t = some .bool) (hx : ev ρ x = (.bool p)) (hy : ev ρ y = .bool q) : Ev1 P (.binOp .neq t x y yt) ty ρ w (.bool (!(p == q))) w := fun _ _ _ _ => by
  have he := run_equalBool (P := P) (w := w) p q hu
  have hb : (binOp .neq t (.bool p) (.bool q)).run P w = .ok (.bool (!(p == q))) w := by
    show (do pure (Value.bool (!(← Op.equal t (.bool p) (.bool q)))) : Sem Value).run P w = _
    simp only [Sem.run_bind, he, Result.andThen_ok]
    rfl
  have hg : (eqGuard .neq t x y (.bool p) (.bool q)).run P w = .ok () w := by simp [eqGuard]
  simp only [execOp, hx, hy, Sem.run_bind, hg, hb, Result.andThen_ok, Sem.run_pure]
theorem x_max2 {x y : Operand} {tt : Array TypeId} {k : IntKind} {p q : Int} (hx : ev ρ x = .int k p) (hy : ev ρ y = .int k q) : Ev1 P (.call ⟨.builtin .max, #[x, y], tt⟩) ty ρ w (.int k (max p q)) w := fun _ _ _ _ => by
  have e : (if q > p then q else p) = max p q := by omega
  simp [execOp, resolve, hx, hy, invoke, builtin, Builtin.max_, Builtin.max2, ← e]
theorem x_min2 {x y : Operand} {tt : Array TypeId} {k : IntKind} {p q : Int} (hx : ev ρ x = .int k p) (hy : ev ρ y = .int k q) : Ev1 P (.call ⟨.builtin .min, #[x, y], tt⟩) ty ρ w (.int k (min p q)) w := fun _ _ _ _ => by
  have e : (if q < p then q else p) = min p q := by omega
  simp [execOp, resolve, hx, hy, invoke, builtin, Builtin.min_, Builtin.min2, ← e]
theorem x_lenS {x : Operand} (hu : slcB P t = true) (hx : ev ρ x = .slice a n cap) : Ev1 P (.call ⟨.builtin .len, #[x], #[t]⟩) ty ρ w (.int .i64 n) w :=
  let ⟨_, h⟩ := slcB_spec hu
  x_len h hx
/-- A type whose underlying type is the integers of kind k. -/
def intB (P : Program) (t : TypeId) (k : IntKind) : Bool := match P.underlying t with | some (.int q) => decide (q = k) | _ => false
theorem intB_spec {t : TypeId} {k : IntKind} (h : intB P t k = true) : P.underlying t = some (.int k) := by
  unfold intB at h
  split at h
  · rename_i q hq; rw [hq, of_decide_eq_true h]
  · cases h
theorem x_convI {x : Operand} {s d : TypeId} {k k' q : IntKind} {n : Int} (hs : intB P s q = true) (hd : intB P d k' = true) (hx : ev ρ x = .int k n) : Ev1 P (.convert s d x) ty ρ w (.int k' (k'.wrap n)) w :=
  x_conv (intB_spec hs) (intB_spec hd) hx
end
end Go.Sl
