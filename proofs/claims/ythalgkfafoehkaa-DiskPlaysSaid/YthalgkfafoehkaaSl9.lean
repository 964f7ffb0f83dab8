/- Maps as assertions: look-ups, updates, lengths, clearing, ranging, cloning. Holds for every program. -/
import Derived.Test.YthalgkfafoehkaaSl8
namespace Go.Sl
section defs
variable {κ : Type} [DecidableEq κ]
/-- A map's object, read as a list of pairs. -/
structure MapIs (kf : κ → Value) (es : Array MapEntry) (clock : Nat) (m : List (κ × Value)) : Prop where
  keys : es.toList.map (·.key) = m.map fun p => kf p.1
  vals : es.toList.map (·.val) = m.map fun p => p.2
  nodup : (m.map (·.1)).Nodup
  born : (es.toList.map (·.born)).Nodup
  old : ∀ e ∈ es.toList, e.born < clock
def mapP (kf : κ → Value) (b : Nat) (m : List (κ × Value)) : HP := fun h => ∃ es clock, h b = some (.map es clock) ∧ MapIs kf es clock m
def lk (m : List (κ × Value)) (k : κ) : Option Value := (m.find? fun p => decide (p.1 = k)).map (·.2)
def pt (m : List (κ × Value)) (k : κ) (v : Value) : List (κ × Value) := if (lk m k).isSome then m.map fun p => if p.1 = k then (k, v) else p else m ++ [(k, v)]
end defs

section
variable {P : Program} {ρ : Fr} {w w' w0 : World} {ops : Array Oper} {op : Op} {ty : TypeId} {pos : String} {af : Array Edge} {g : Option (Nat × Bool)} {l : List Oper} {Kk : Fr → World → Prop} {v : Value} {L : List HP}
variable {κ : Type} {kf : κ → Value} {m : List (κ × Value)} {K E t : TypeId}
theorem Sat.mapAt {i b : Nat} (H : Sat w0 w L) (hi : L[i]? = some (mapP kf b m)) : ∃ es clock, w.heap[b]? = some (.map es clock) ∧ MapIs kf es clock m ∧ Sat w0 w (L.set i (blk b (.map es clock))) := by
  obtain ⟨hE, h1, h2, d, s1, s2, ⟨es, clock, hb, hm⟩, hq⟩ := H.pick hi
  have H1 : Sat w0 w (L.set i (blk b (.map es clock))) := ⟨hE, stars_perm (perm_set (lt_of_pick hi) _) ⟨h1, h2, d, s1, s2, hb, hq⟩⟩
  exact ⟨es, clock, H1.heap (get_set hi _), hm, H1⟩
theorem Sat.toMap {i b : Nat} {es : Array MapEntry} {clock : Nat} (H : Sat w0 w L) (hi : L[i]? = some (blk b (.map es clock))) (hm : MapIs kf es clock m) : Sat w0 w (L.set i (mapP kf b m)) :=
  H.imp hi fun _ hg => ⟨es, clock, hg, hm⟩
theorem mapIs_empty (kf : κ → Value) (clock : Nat) : MapIs kf #[] clock [] := ⟨rfl, rfl, by simp, by simp, by simp⟩

def MapAt (w : World) (kf : κ → Value) (b : Nat) (m : List (κ × Value)) : Prop := ∃ es clock, w.heap[b]? = some (.map es clock) ∧ MapIs kf es clock m
theorem Sat.mapW {i b : Nat} (H : Sat w0 w L) (hi : L[i]? = some (mapP kf b m)) : MapAt w kf b m := by
  obtain ⟨es, clock, h1, h2, _⟩ := H.mapAt hi
  exact ⟨es, clock, h1, h2⟩
theorem run_getMap {b : Nat} {es : Array MapEntry} {clock : Nat} (h : w.heap[b]? = some (.map es clock)) : (getObj b).run P w = .ok (.map es clock) w := by
  simp [getObj, Sem.run, h]
theorem x_lenMap {x : Operand} {b : Nat} (hT : P.underlying t = some (.map K E)) (hx : ev ρ x = .map (some b)) (hm : MapAt w kf b m) : Ev1 P (.call ⟨.builtin .len, #[x], #[t]⟩) ty ρ w (.int .i64 m.length) w := fun _ _ _ _ => by
  obtain ⟨es, clock, hb, hm⟩ := hm
  have : es.size = m.length := by
    have := congrArg List.length hm.vals
    simpa using this
  simp [execOp, resolve, hx, invoke, builtin, Builtin.len_, run_und hT, run_getMap hb, goInt, this]

variable [DecidableEq κ]

theorem findIx_none {k : κ} : ∀ (m : List (κ × Value)) (es : List MapEntry) (i : Nat), es.map (·.val) = m.map (fun p => p.2) → lk m k = none → findIx k (m.map (·.1)) es i = none := by
  intro m
  induction m with
  | nil => intro es i _ _; simp [findIx]
  | cons p m ih =>
    intro es i hv hl
    cases es with
    | nil => simp at hv
    | cons e es =>
      simp only [List.map_cons, List.cons.injEq] at hv
      have hne : ¬ p.1 = k := fun q => by simp [lk, q] at hl
      simp only [List.map_cons, findIx, if_neg hne]
      exact ih es (i + 1) hv.2 (by simpa [lk, hne] using hl)
theorem findIx_some {k : κ} {u : Value} : ∀ (m : List (κ × Value)) (es : List MapEntry) (i : Nat), es.map (·.val) = m.map (fun p => p.2) → lk m k = some u →
    ∃ j, findIx k (m.map (·.1)) es i = some (i + j, u) ∧ m[j]? = some (k, u) := by
  intro m
  induction m with
  | nil => intro es i _ hl; simp [lk] at hl
  | cons p m ih =>
    intro es i hv hl
    cases es with
    | nil => simp at hv
    | cons e es =>
      simp only [List.map_cons, List.cons.injEq] at hv
      by_cases hk : p.1 = k
      · have hu : p.2 = u := by simpa [lk, hk] using hl
        refine ⟨0, ?_, ?_⟩
        · simp [findIx, hk, hv.1, hu]
        · simp [← hk, ← hu]
      · obtain ⟨j, h1, h2⟩ := ih es (i + 1) hv.2 (by simpa [lk, hk] using hl)
        refine ⟨j + 1, ?_, by simpa using h2⟩
        simp only [List.map_cons, findIx, if_neg hk, h1]
        congr 2
        omega

/-- What a map holds, in a world at hand: for look-ups. -/
theorem run_find {es : Array MapEntry} {clock : Nat} (hk : KeyT P K kf) (hm : MapIs kf es clock m) (k : κ) : (Instr.findKey K (kf k) es.toList).run P w = .ok (findIx k (m.map (·.1)) es.toList 0) w :=
  hk.find w k (m.map (·.1)) es.toList (by rw [hm.keys, List.map_map]; rfl)
theorem x_lookup {x ix : Operand} {b : Nat} {z : Value} {k : κ} (hT : P.underlying t = some (.map K E)) (hk : KeyT P K kf) (hz : ZeroT P E z) (hx : ev ρ x = .map (some b)) (hi : ev ρ ix = kf k) (hm : MapAt w kf b m) :
    Ev1 P (.lookup t x ix false) ty ρ w ((lk m k).getD z) w := fun _ _ _ _ => by
  obtain ⟨es, clock, hb, hm⟩ := hm
  obtain ⟨q, hq, hz⟩ := hz.info
  have hf := run_find (w := w) hk hm k
  have hc := hk.check w es.isEmpty k
  simp only [execOp, hx, hi, Instr.lookup, Sem.run_bind, run_und hT, Result.andThen_ok, run_getMap hb, Sem.run_pure, hc, hf]
  cases hl : lk m k with
  | none =>
    rw [findIx_none m es.toList 0 hm.vals hl]
    simp only [Sem.run_bind, zeroValue, run_info hq, Result.andThen_ok, hz, Sem.run_pure, Option.getD_none, Bool.false_eq_true, if_false]
  | some u =>
    obtain ⟨j, h1, _⟩ := findIx_some m es.toList 0 hm.vals hl
    rw [h1]
    simp only [Sem.run_bind, Sem.run_pure, Result.andThen_ok, Option.getD_some, Bool.false_eq_true, if_false]
theorem x_lookupV {x ix : Operand} {b : Nat} {z : Value} {k : κ} (hT : P.underlying t = some (.map K E)) (hk : KeyT P K kf) (hz : ZeroT P E z) (hv : (lk m k).getD z = v) (hx : ev ρ x = .map (some b)) (hi : ev ρ ix = kf k) (hm : MapAt w kf b m) :
    Ev1 P (.lookup t x ix false) ty ρ w v w := hv ▸ x_lookup hT hk hz hx hi hm
theorem x_lookup2 {x ix : Operand} {b : Nat} {z : Value} {k : κ} (hT : P.underlying t = some (.map K E)) (hk : KeyT P K kf) (hz : ZeroT P E z) (hx : ev ρ x = .map (some b)) (hi : ev ρ ix = kf k) (hm : MapAt w kf b m) :
    Ev1 P (.lookup t x ix true) ty ρ w (.tuple #[(lk m k).getD z, .bool (lk m k).isSome]) w := fun _ _ _ _ => by
  obtain ⟨es, clock, hb, hm⟩ := hm
  obtain ⟨q, hq, hz⟩ := hz.info
  have hf := run_find (w := w) hk hm k
  have hc := hk.check w es.isEmpty k
  simp only [execOp, hx, hi, Instr.lookup, Sem.run_bind, run_und hT, Result.andThen_ok, run_getMap hb, Sem.run_pure, hc, hf]
  cases hl : lk m k with
  | none =>
    rw [findIx_none m es.toList 0 hm.vals hl]
    simp only [Sem.run_bind, zeroValue, run_info hq, Result.andThen_ok, hz, Sem.run_pure, Option.getD_none, if_true, Option.isSome_none]
  | some u =>
    obtain ⟨j, h1, _⟩ := findIx_some m es.toList 0 hm.vals hl
    rw [h1]
    simp only [Sem.run_bind, Sem.run_pure, Result.andThen_ok, Option.getD_some, if_true, Option.isSome_some]
theorem But.setObj {b : Nat} {o o' : Obj} (h : w.heap[b]? = some o) : But w { w with heap := w.heap.setIfInBounds b o' } b ∧ ({ w with heap := w.heap.setIfInBounds b o' } : World).heap[b]? = some o' := by
  have hlt := (Array.getElem?_eq_some_iff.1 h).1
  refine ⟨⟨by simp, fun k hk => ?_, rfl, rfl, rfl⟩, by simp [hlt]⟩
  simp [Array.getElem?_setIfInBounds_ne (Ne.symm hk)]
theorem run_setMap {b : Nat} {es : Array MapEntry} {clock : Nat} (o : Obj) (h : w.heap[b]? = some (.map es clock)) : (setObj b o).run P w = .ok () { w with heap := w.heap.setIfInBounds b o } := by
  simp [setObj, Sem.run, h]

theorem pt_keys {k : κ} {u : Value} (h : (lk m k).isSome = true) : (pt m k u).map (·.1) = m.map (·.1) := by
  unfold pt
  rw [if_pos h, List.map_map]
  refine List.map_congr_left fun p _ => ?_
  by_cases hp : p.1 = k <;> simp [hp]
theorem modify_vals {es : List MapEntry} {m : List (κ × Value)} {k : κ} {u x : Value} {j : Nat} (hv : es.map (·.val) = m.map fun p => p.2) (hj : m[j]? = some (k, u)) (hn : (m.map (·.1)).Nodup) (kk : Value) :
    (es.modify j fun e => { e with key := kk, val := x }).map (·.val) = (m.map fun p => if p.1 = k then (k, x) else p).map fun p => p.2 := by
  apply List.ext_getElem?
  intro i
  have hvi := congrArg (fun l => l[i]?) hv
  simp only [List.getElem?_map] at hvi ⊢
  rw [List.getElem?_modify]
  have hjl := (List.getElem?_eq_some_iff.1 hj).1
  by_cases hi : j = i
  · subst hi
    simp only [hj, Option.map_some] at hvi ⊢
    cases he : es[j]? with
    | none => rw [he] at hvi; cases hvi
    | some e => simp
  · cases hmi : m[i]? with
    | none => rw [hmi] at hvi; cases he : es[i]? with
      | none => simp
      | some e => rw [he] at hvi; cases hvi
    | some p =>
      rw [hmi] at hvi
      have hne : ¬ p.1 = k := fun hp => hi (by
        refine (List.getElem?_inj (by simpa using hjl) hn).1 ?_
        rw [List.getElem?_map, List.getElem?_map, hj, hmi]; simp [hp])
      cases he : es[i]? with
      | none => rw [he] at hvi; cases hvi
      | some e =>
        rw [he] at hvi
        simp only [Option.map_some, Option.some.injEq] at hvi
        simp [hi, hne, hvi]
theorem mapUpdate_sat {i b : Nat} {k : κ} {u : Value} (hT : P.underlying t = some (.map K E)) (hk : KeyT P K kf) (H : Sat w0 w L) (hi : L[i]? = some (mapP kf b m)) :
    ∃ w', (Instr.mapUpdate t (.map (some b)) (kf k) u).run P w = .ok () w' ∧ Sat w0 w' (L.set i (mapP kf b (pt m k u))) := by
  obtain ⟨es, clock, hb, hm, H1⟩ := H.mapAt hi
  have hf := run_find (w := w) hk hm k
  have hc := hk.check w false k
  cases hl : lk m k with
  | none =>
    have hfi := findIx_none m es.toList 0 hm.vals hl
    rw [hfi] at hf
    refine ⟨{ w with heap := w.heap.setIfInBounds b (.map (es.push { key := kf k, val := u, born := clock }) (clock + 1)) }, ?_, ?_⟩
    · simp only [Instr.mapUpdate, Sem.run_bind, run_und hT, Result.andThen_ok, run_getMap hb, hc, hf, run_setMap _ hb]
    · have H2 := H1.set (get_set hi _) (But.setObj (o' := .map (es.push { key := kf k, val := u, born := clock }) (clock + 1)) hb).1 (But.setObj hb).2
      rw [set_set] at H2
      have H3 := H2.toMap (kf := kf) (m := pt m k u) (get_set hi _) (by
        have hp : pt m k u = m ++ [(k, u)] := by simp [pt, hl]
        rw [hp]
        refine ⟨by simp [hm.keys], by simp [hm.vals], ?_, ?_, ?_⟩
        · rw [List.map_append, List.nodup_append]
          refine ⟨hm.nodup, by simp, ?_⟩
          intro a ha c hc' hac
          simp at hc'
          subst hc' hac
          obtain ⟨p, hp1, hp2⟩ := List.mem_map.1 ha
          have : (lk m a).isSome = true := by
            unfold lk
            rw [Option.isSome_map, List.find?_isSome]
            exact ⟨p, hp1, by simp [hp2]⟩
          rw [hl] at this; cases this
        · rw [Array.toList_push, List.map_append, List.nodup_append]
          refine ⟨hm.born, by simp, ?_⟩
          intro a ha c hc' hac
          simp at hc'
          subst hc' hac
          obtain ⟨p, hp1, hp2⟩ := List.mem_map.1 ha
          have := hm.old p hp1
          omega
        · intro e he
          rw [Array.toList_push, List.mem_append] at he
          rcases he with he | he
          · have := hm.old e he; omega
          · simp at he; subst he; simp)
      rw [set_set] at H3
      exact H3
  | some u0 =>
    obtain ⟨j, hfi, hj⟩ := findIx_some m es.toList 0 hm.vals hl
    rw [hfi] at hf
    have hkey : (((es[0 + j]?).map (·.key)).getD (kf k)) = kf k := by
      have := congrArg (fun l => l[j]?) hm.keys
      simp only [List.getElem?_map, hj, Option.map_some] at this
      rw [Nat.zero_add]
      rw [show es[j]? = es.toList[j]? by simp]
      cases he : es.toList[j]? with
      | none => rfl
      | some e => rw [he] at this; simpa using this
    refine ⟨{ w with heap := w.heap.setIfInBounds b (.map (es.modify (0 + j) fun e => { e with key := kf k, val := u }) clock) }, ?_, ?_⟩
    · simp only [Instr.mapUpdate, Sem.run_bind, run_und hT, Result.andThen_ok, run_getMap hb, hc, hf, hkey, hk.stays w k, run_setMap _ hb]
    · have H2 := H1.set (get_set hi _) (But.setObj (o' := .map (es.modify (0 + j) fun e => { e with key := kf k, val := u }) clock) hb).1 (But.setObj hb).2
      rw [set_set] at H2
      have H3 := H2.toMap (kf := kf) (m := pt m k u) (get_set hi _) (by
        have hs : (lk m k).isSome = true := by rw [hl]; rfl
        have hp : pt m k u = m.map fun p => if p.1 = k then (k, u) else p := by unfold pt; rw [if_pos hs]
        have hlist : (es.modify (0 + j) fun e => { e with key := kf k, val := u }).toList = es.toList.modify j fun e => { e with key := kf k, val := u } := by simp
        refine ⟨?_, ?_, ?_, ?_, ?_⟩
        · rw [hlist]
          have h1 : (pt m k u).map (fun p => kf p.1) = m.map fun p => kf p.1 := by
            have := congrArg (List.map kf) (pt_keys (u := u) hs)
            simpa [List.map_map, Function.comp_def] using this
          rw [h1, ← hm.keys]
          apply List.ext_getElem?
          intro i'
          rw [List.getElem?_map, List.getElem?_map, List.getElem?_modify]
          by_cases hij : j = i'
          · subst hij
            have := congrArg (fun l => l[j]?) hm.keys
            simp only [List.getElem?_map, hj, Option.map_some] at this
            cases he : es.toList[j]? with
            | none => simp
            | some e => rw [he] at this; simp only [Option.map_some, Option.some.injEq] at this; simp [this]
          · simp [hij]
        · rw [hlist, hp]; exact modify_vals hm.vals hj hm.nodup _
        · rw [pt_keys hs]; exact hm.nodup
        · rw [hlist]
          have : (es.toList.modify j fun e => { e with key := kf k, val := u }).map (·.born) = es.toList.map (·.born) := by
            apply List.ext_getElem?
            intro i'
            rw [List.getElem?_map, List.getElem?_map, List.getElem?_modify]
            cases es.toList[i']? with
            | none => rfl
            | some e => by_cases hij : j = i' <;> simp [hij]
          rw [this]; exact hm.born
        · intro e he
          rw [hlist] at he
          obtain ⟨i', hi'⟩ := List.mem_iff_getElem?.1 he
          rw [List.getElem?_modify] at hi'
          cases hq : es.toList[i']? with
          | none => rw [hq] at hi'; cases hi'
          | some e0 =>
            rw [hq] at hi'
            have h0 := hm.old e0 (List.mem_of_getElem? hq)
            simp only [Option.map_eq_map, Option.map_some, Option.some.injEq] at hi'
            subst hi'
            split <;> exact h0)
      rw [set_set] at H3
      exact H3
theorem s_mapUpdate {x y z : Operand} {i b : Nat} {k : κ} (hw : wantedR ops ρ ⟨none, .mapUpdate t x y z, ty, pos, af, g⟩ = true) (hT : P.underlying t = some (.map K E)) (hk : KeyT P K kf)
    (hx : ev ρ x = .map (some b)) (hy : ev ρ y = kf k) (hz : ev ρ z = v) (H : Sat w0 w L) (hi : L[i]? = some (mapP kf b m))
    (h : ∀ w', Sat w0 w' (L.set i (mapP kf b (pt m k v))) → Seq1 P ops l ρ w' Kk) : Seq1 P ops (⟨none, .mapUpdate t x y z, ty, pos, af, g⟩ :: l) ρ w Kk := by
  obtain ⟨w', hrun, H'⟩ := mapUpdate_sat (u := v) (k := k) hT hk H hi
  refine s_do hw (fun _ _ _ _ => ?_) (h w' H')
  simp only [execOp, hx, hy, hz, Sem.run_bind, hrun, Result.andThen_ok, Sem.run_pure]
end
section
variable {P : Program} {ρ : Fr} {w w' w0 : World} {ops : Array Oper} {op : Op} {ty : TypeId} {pos : String} {af : Array Edge} {g : Option (Nat × Bool)} {l : List Oper} {Kk : Fr → World → Prop} {v : Value} {L : List HP}
variable {κ : Type} {kf : κ → Value} {m : List (κ × Value)} {K E t : TypeId}
theorem clear_sat {i b : Nat} (hT : P.underlying t = some (.map K E)) (H : Sat w0 w L) (hi : L[i]? = some (mapP kf b m)) :
    ∃ w', (Builtin.clear_ #[t] ty #[.map (some b)]).run P w = .ok (.tuple #[]) w' ∧ Sat w0 w' (L.set i (mapP kf b [])) := by
  obtain ⟨es, clock, hb, hm, H1⟩ := H.mapAt hi
  refine ⟨{ w with heap := w.heap.setIfInBounds b (.map #[] clock) }, ?_, ?_⟩
  · simp [Builtin.clear_, run_und hT, run_getMap hb, run_setMap _ hb]
  · have H2 := H1.set (get_set hi _) (But.setObj (o' := .map #[] clock) hb).1 (But.setObj hb).2
    rw [set_set] at H2
    have H3 := H2.toMap (get_set hi _) (mapIs_empty kf clock)
    rw [set_set] at H3
    exact H3
theorem s_clearMap {x : Operand} {i b : Nat} (hw : wantedR ops ρ ⟨none, .call ⟨.builtin .clear, #[x], #[t]⟩, ty, pos, af, g⟩ = true) (hT : P.underlying t = some (.map K E)) (hx : ev ρ x = .map (some b)) (H : Sat w0 w L) (hi : L[i]? = some (mapP kf b m))
    (h : ∀ w', Sat w0 w' (L.set i (mapP kf b [])) → Seq1 P ops l ρ w' Kk) : Seq1 P ops (⟨none, .call ⟨.builtin .clear, #[x], #[t]⟩, ty, pos, af, g⟩ :: l) ρ w Kk := by
  obtain ⟨w', hrun, H'⟩ := clear_sat (ty := ty) hT H hi
  refine s_valn hw (v := .tuple #[]) (fun _ _ _ _ => ?_) (h w' H')
  simp [execOp, resolve, hx, invoke, builtin, hrun]
end
end Go.Sl
