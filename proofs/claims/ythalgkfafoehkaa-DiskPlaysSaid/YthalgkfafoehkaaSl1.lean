/- Plain separation logic over the model's heap: assertions on partial heaps, and worlds that satisfy a list of them. Holds for every program. -/
import Derived.Laws.World
import Derived.Laws.Rows
namespace Go.Sl

/-- A partial heap. -/
abbrev Hp := Nat → Option Obj
/-- An assertion. -/
abbrev HP := Hp → Prop

def sub (h g : Hp) : Prop := ∀ b o, h b = some o → g b = some o
def disj (h g : Hp) : Prop := ∀ b, h b = none ∨ g b = none
def uni (h g : Hp) : Hp := fun b => match h b with | some o => some o | none => g b

theorem sub.refl (h : Hp) : sub h h := fun _ _ e => e
theorem sub.trans {a b c : Hp} (h : sub a b) (g : sub b c) : sub a c := fun _ _ e => g _ _ (h _ _ e)
theorem disj.symm {h g : Hp} (d : disj h g) : disj g h := fun b => (d b).symm
theorem disj.mono {h g h' g' : Hp} (d : disj h g) (a : sub h' h) (c : sub g' g) : disj h' g' := by
  intro b
  rcases d b with e | e
  · left
    cases e' : h' b with
    | none => rfl
    | some o => rw [a _ _ e'] at e; cases e
  · right
    cases e' : g' b with
    | none => rfl
    | some o => rw [c _ _ e'] at e; cases e
theorem sub_uni_left (h g : Hp) : sub h (uni h g) := by
  intro b o e; simp [uni, e]
theorem sub_uni_right {h g : Hp} (d : disj h g) : sub g (uni h g) := by
  intro b o e
  rcases d b with e' | e'
  · simp [uni, e', e]
  · rw [e] at e'; cases e'
theorem uni_sub {h g k : Hp} (a : sub h k) (c : sub g k) : sub (uni h g) k := by
  intro b o e
  unfold uni at e
  split at e
  · rename_i o' e'; cases e; exact a _ _ e'
  · exact c _ _ e
theorem disj_uni {h g k : Hp} (a : disj h k) (c : disj g k) : disj (uni h g) k := by
  intro b
  rcases a b with e | e
  · rcases c b with e' | e'
    · left; simp [uni, e, e']
    · exact .inr e'
  · exact .inr e

def star (p q : HP) : HP := fun h => ∃ h1 h2, disj h1 h2 ∧ sub h1 h ∧ sub h2 h ∧ p h1 ∧ q h2
def emp : HP := fun _ => True
def blk (b : Nat) (o : Obj) : HP := fun h => h b = some o
def lift (φ : Prop) : HP := fun _ => φ
def ex {α : Sort _} (p : α → HP) : HP := fun h => ∃ x, p x h
/-- An assertion that larger heaps keep. -/
def Mono (p : HP) : Prop := ∀ h g, sub h g → p h → p g
def stars : List HP → HP
  | [] => emp
  | p :: L => star p (stars L)

theorem star_mono (p q : HP) : Mono (star p q) := fun _ _ s ⟨a, b, d, s1, s2, hp, hq⟩ => ⟨a, b, d, s1.trans s, s2.trans s, hp, hq⟩
theorem stars_mono (L : List HP) : Mono (stars L) := by
  cases L with
  | nil => exact fun _ _ _ _ => trivial
  | cons p L => exact star_mono _ _
theorem blk_mono (b : Nat) (o : Obj) : Mono (blk b o) := fun _ _ s e => s _ _ e
theorem lift_mono (φ : Prop) : Mono (lift φ) := fun _ _ _ e => e
theorem ex_mono {α : Sort _} {p : α → HP} (h : ∀ x, Mono (p x)) : Mono (ex p) := fun _ _ s ⟨x, e⟩ => ⟨x, h x _ _ s e⟩

theorem star_imp {p q p' q' : HP} {h : Hp} (s : star p q h) (a : ∀ g, p g → p' g) (c : ∀ g, q g → q' g) : star p' q' h := by
  obtain ⟨h1, h2, d, s1, s2, hp, hq⟩ := s
  exact ⟨h1, h2, d, s1, s2, a _ hp, c _ hq⟩
theorem star_comm {p q : HP} {h : Hp} (s : star p q h) : star q p h := by
  obtain ⟨h1, h2, d, s1, s2, hp, hq⟩ := s
  exact ⟨h2, h1, d.symm, s2, s1, hq, hp⟩
theorem star_swap {p q r : HP} {h : Hp} (s : star p (star q r) h) : star q (star p r) h := by
  obtain ⟨h1, h2, d, s1, s2, hp, g1, g2, d', t1, t2, hq, hr⟩ := s
  have d1 : disj h1 g1 := d.mono (sub.refl _) t1
  have d2 : disj h1 g2 := d.mono (sub.refl _) t2
  refine ⟨g1, uni h1 g2, ?_, t1.trans s2, uni_sub s1 (t2.trans s2), hq, h1, g2, d2, sub_uni_left _ _, sub_uni_right d2, hp, hr⟩
  exact (disj_uni d1 d'.symm).symm
theorem star_assoc {p q r : HP} {h : Hp} (s : star (star p q) r h) : star p (star q r) h := star_comm (star_imp (star_swap (star_comm s)) (fun _ x => x) (fun _ x => x)) |> fun s => by
  have := star_comm s
  obtain ⟨h1, h2, d, s1, s2, hp, g1, g2, d', t1, t2, hr, hq⟩ := star_swap (star_comm ‹star (star p q) r h›)
  exact ⟨h1, h2, d, s1, s2, hp, g2, g1, d'.symm, t2, t1, hq, hr⟩

theorem stars_perm {L M : List HP} (e : L.Perm M) : ∀ {h : Hp}, stars L h → stars M h := by
  induction e with
  | nil => exact fun x => x
  | cons p _ ih => exact fun s => star_imp s (fun _ x => x) (fun _ x => ih x)
  | swap p q L => exact fun s => star_swap s
  | trans _ _ a c => exact fun s => c (a s)

/-- A list in a list's place. -/
theorem stars_join (M L : List HP) : ∀ {h : Hp}, stars (stars M :: L) h → stars (M ++ L) h := by
  induction M with
  | nil =>
    intro h ⟨h1, h2, _, _, s2, _, hq⟩
    exact stars_mono L _ _ s2 hq
  | cons p M ih =>
    intro h s
    exact star_imp (star_assoc s) (fun _ x => x) (fun _ x => ih x)
theorem star_assoc' {p q r : HP} {h : Hp} (s : star p (star q r) h) : star (star p q) r h := by
  obtain ⟨h1, h2, d, s1, s2, hp, g1, g2, d', t1, t2, hq, hr⟩ := s
  have d1 : disj h1 g1 := d.mono (sub.refl _) t1
  have d2 : disj h1 g2 := d.mono (sub.refl _) t2
  exact ⟨uni h1 g1, g2, disj_uni d2 d', uni_sub s1 (t1.trans s2), t2.trans s2, ⟨h1, g1, d1, sub_uni_left _ _, sub_uni_right d1, hp, hq⟩, hr⟩
theorem stars_part (M L : List HP) : ∀ {h : Hp}, stars (M ++ L) h → stars (stars M :: L) h := by
  induction M with
  | nil =>
    intro h s
    exact ⟨fun _ => none, h, fun _ => .inl rfl, (fun _ _ e => by cases e), sub.refl _, trivial, s⟩
  | cons p M ih =>
    intro h s
    exact star_assoc' (star_imp s (fun _ x => x) (fun _ x => ih x))

/-! ### Worlds -/

/-- What lay in the first world is there still, as it was. -/
def Ext (w0 w : World) : Prop := w0.heap.size ≤ w.heap.size ∧ (∀ b, b < w0.heap.size → w.heap[b]? = w0.heap[b]?) ∧ w.os = w0.os ∧ w.output = w0.output ∧ w.tape = w0.tape
theorem Ext.refl (w : World) : Ext w w := ⟨Nat.le_refl _, fun _ _ => rfl, rfl, rfl, rfl⟩
theorem Ext.trans {a b c : World} (h : Ext a b) (g : Ext b c) : Ext a c :=
  ⟨Nat.le_trans h.1 g.1, fun k hk => (g.2.1 k (Nat.lt_of_lt_of_le hk h.1)).trans (h.2.1 k hk), g.2.2.1.trans h.2.2.1, g.2.2.2.1.trans h.2.2.2.1, g.2.2.2.2.trans h.2.2.2.2⟩
/-- The memory, what the outside is, and what was printed: all but the draws. -/
def core (w : World) : Array Obj × Os × Array (Nat × ByteArray) × (Nat → Question → Nat) := (w.heap, w.os, w.output, w.tape)
theorem core_heap {w w' : World} (e : core w' = core w) : w'.heap = w.heap := congrArg (fun x => x.1) e
theorem core_os {w w' : World} (e : core w' = core w) : w'.os = w.os := congrArg (fun x => x.2.1) e
theorem core_out {w w' : World} (e : core w' = core w) : w'.output = w.output := congrArg (fun x => x.2.2.1) e
theorem core_tape {w w' : World} (e : core w' = core w) : w'.tape = w.tape := congrArg (fun x => x.2.2.2) e
theorem Ext.heapEq {w w1 w2 : World} (h : Ext w w1) (e : core w2 = core w1) : Ext w w2 := by
  have e1 := core_heap e
  exact ⟨by rw [e1]; exact h.1, fun b hb => by rw [e1]; exact h.2.1 b hb, (core_os e).trans h.2.2.1, (core_out e).trans h.2.2.2.1, (core_tape e).trans h.2.2.2.2⟩

/-- The blocks that came behind the first world. -/
def hpOf (w0 w : World) : Hp := fun b => if b < w0.heap.size then none else w.heap[b]?

/-- World w keeps w0's memory and satisfies the assertions, each on blocks of its own that came behind w0. -/
def Sat (w0 w : World) (L : List HP) : Prop := Ext w0 w ∧ stars L (hpOf w0 w)

theorem Sat.perm {w0 w : World} {L M : List HP} (h : Sat w0 w L) (e : L.Perm M) : Sat w0 w M := ⟨h.1, stars_perm e h.2⟩
theorem Sat.ext {w0 w : World} {L : List HP} (h : Sat w0 w L) : Ext w0 w := h.1
theorem Sat.nil {w0 w : World} (h : Ext w0 w) : Sat w0 w [] := ⟨h, trivial⟩
theorem Sat.join {w0 w : World} {M L : List HP} (h : Sat w0 w (stars M :: L)) : Sat w0 w (M ++ L) := ⟨h.1, stars_join M L h.2⟩
theorem Sat.part {w0 w : World} {M L : List HP} (h : Sat w0 w (M ++ L)) : Sat w0 w (stars M :: L) := ⟨h.1, stars_part M L h.2⟩

/-- What is picked out comes to the front. -/
theorem perm_pick {α : Type _} {L : List α} {i : Nat} {p : α} (h : L[i]? = some p) : L.Perm (p :: L.eraseIdx i) := by
  induction L generalizing i with
  | nil => simp at h
  | cons x L ih =>
    cases i with
    | zero => simp at h; subst h; simp
    | succ i =>
      simp only [List.eraseIdx_cons_succ]
      exact ((ih (by simpa using h)).cons x).trans (List.Perm.swap _ _ _)
theorem perm_set {α : Type _} {L : List α} {i : Nat} (hi : i < L.length) (q : α) : (q :: L.eraseIdx i).Perm (L.set i q) := by
  induction L generalizing i with
  | nil => simp at hi
  | cons x L ih =>
    cases i with
    | zero => simp
    | succ i =>
      simp only [List.eraseIdx_cons_succ, List.set_cons_succ]
      exact (List.Perm.swap _ _ _).trans ((ih (by simpa using hi)).cons x)
theorem lt_of_pick {α : Type _} {L : List α} {i : Nat} {p : α} (h : L[i]? = some p) : i < L.length := (List.getElem?_eq_some_iff.1 h).1

theorem Sat.pick {w0 w : World} {L : List HP} {i : Nat} {p : HP} (h : Sat w0 w L) (hi : L[i]? = some p) : Sat w0 w (p :: L.eraseIdx i) := h.perm (perm_pick hi)

/-- A block that is told. -/
theorem Sat.block {w0 w : World} {L : List HP} {i b : Nat} {o : Obj} (h : Sat w0 w L) (hi : L[i]? = some (blk b o)) : w.heap[b]? = some o ∧ w0.heap.size ≤ b := by
  obtain ⟨_, h1, h2, _, s1, _, hp, _⟩ := h.pick hi
  have := s1 _ _ hp
  unfold hpOf at this
  split at this
  · cases this
  · exact ⟨this, by omega⟩
theorem Sat.heap {w0 w : World} {L : List HP} {i b : Nat} {o : Obj} (h : Sat w0 w L) (hi : L[i]? = some (blk b o)) : w.heap[b]? = some o := (h.block hi).1

/-- Two worlds that are alike but for one block. -/
structure But (w w' : World) (b : Nat) : Prop where
  size : w'.heap.size = w.heap.size
  other : ∀ k, k ≠ b → w'.heap[k]? = w.heap[k]?
  os : w'.os = w.os
  output : w'.output = w.output
  tape : w'.tape = w.tape

theorem Sat.set {w0 w w' : World} {L : List HP} {i b : Nat} {o o' : Obj} (h : Sat w0 w L) (hi : L[i]? = some (blk b o)) (hw : But w w' b)
    (hb : w'.heap[b]? = some o') : Sat w0 w' (L.set i (blk b o')) := by
  have hge := (h.block hi).2
  refine ⟨⟨by rw [hw.size]; exact h.1.1, fun k hk => (hw.other k (by omega)).trans (h.1.2.1 k hk), hw.os.trans h.1.2.2.1, hw.output.trans h.1.2.2.2.1, hw.tape.trans h.1.2.2.2.2⟩, ?_⟩
  refine stars_perm (perm_set (lt_of_pick hi) _) ?_
  obtain ⟨_, h1, h2, d, s1, s2, hp, hq⟩ := h.pick hi
  have n2 : h2 b = none := by
    rcases d b with e | e
    · rw [show h1 b = some o from hp] at e; cases e
    · exact e
  have nb : ¬ b < w0.heap.size := by omega
  refine ⟨fun k => if k = b then some o' else none, h2, ?_, ?_, ?_, by simp [blk], hq⟩
  · intro k
    by_cases e : k = b
    · subst e; exact .inr n2
    · left; simp [e]
  · intro k x e
    by_cases e' : k = b
    · subst e'; simp at e; subst e; simp [hpOf, nb, hb]
    · simp [e'] at e
  · intro k x e
    have hne : k ≠ b := by rintro rfl; rw [n2] at e; cases e
    have := s2 _ _ e
    unfold hpOf at this ⊢
    rw [hw.other k hne]; exact this

/-- A world with blocks more. -/
theorem Sat.more {w0 w w' : World} {L N : List HP} (h : Sat w0 w L) (g : Sat w w' N) : Sat w0 w' (L ++ N) := by
  refine ⟨h.1.trans g.1, ?_⟩
  have hs := stars_part N L (h := hpOf w0 w') ?_
  · exact stars_perm List.perm_append_comm (stars_join N L hs)
  · refine stars_join N L ?_
    refine ⟨hpOf w w', hpOf w0 w, ?_, ?_, ?_, g.2, h.2⟩
    · intro b
      by_cases e : b < w.heap.size
      · left; simp [hpOf, e]
      · right
        simp only [hpOf]
        split
        · rfl
        · exact Array.getElem?_eq_none (by omega)
    · intro b o e
      simp only [hpOf] at e ⊢
      split at e
      · cases e
      · rename_i hb
        have := h.1.1
        rw [if_neg (by omega)]; exact e
    · intro b o e
      simp only [hpOf] at e ⊢
      split at e
      · cases e
      · rename_i hb
        rw [if_neg hb]
        have : b < w.heap.size := by
          rcases Nat.lt_or_ge b w.heap.size with x | x
          · exact x
          · rw [Array.getElem?_eq_none x] at e; cases e
        rw [g.1.2.1 b this]; exact e
theorem Sat.alloc {w0 w : World} {L : List HP} (h : Sat w0 w L) (o : Obj) : Sat w0 (w.alloc o) (L ++ [blk w.heap.size o]) := by
  refine h.more ⟨⟨by unfold World.alloc; simp, fun b hb => heap_alloc_old w o b hb, rfl, rfl, rfl⟩, ?_⟩
  refine ⟨hpOf w (w.alloc o), fun _ => none, fun _ => .inr rfl, sub.refl _, (fun _ _ e => by cases e), ?_, trivial⟩
  have e := heap_alloc_new w o
  show (if w.heap.size < w.heap.size then none else (w.alloc o).heap[w.heap.size]?) = some o
  rw [if_neg (Nat.lt_irrefl _)]; exact e
/-- Draws change no memory. -/
theorem Sat.heapEq {w0 w w' : World} {L : List HP} (h : Sat w0 w L) (e : core w' = core w) : Sat w0 w' L := by
  have he : hpOf w0 w' = hpOf w0 w := by funext b; simp [hpOf, core_heap e]
  exact ⟨h.1.heapEq e, he ▸ h.2⟩

/-- What is in an assertion of the list. -/
theorem Sat.imp {w0 w : World} {L : List HP} {i : Nat} {p q : HP} (h : Sat w0 w L) (hi : L[i]? = some p) (hq : ∀ g, p g → q g) : Sat w0 w (L.set i q) :=
  ⟨h.1, stars_perm (perm_set (lt_of_pick hi) _) (star_imp (h.pick hi).2 hq (fun _ x => x))⟩
theorem Sat.outEx {w0 w : World} {L : List HP} {i : Nat} {α : Sort _} {p : α → HP} (h : Sat w0 w L) (hi : L[i]? = some (ex p)) : ∃ x, Sat w0 w (L.set i (p x)) := by
  obtain ⟨h0, h1, h2, d, s1, s2, ⟨x, hp⟩, hq⟩ := h.pick hi
  exact ⟨x, h0, stars_perm (perm_set (lt_of_pick hi) _) ⟨h1, h2, d, s1, s2, hp, hq⟩⟩
theorem Sat.outLift {w0 w : World} {L : List HP} {i : Nat} {φ : Prop} (h : Sat w0 w L) (hi : L[i]? = some (lift φ)) : φ := by
  obtain ⟨_, _, _, _, _, _, hp, _⟩ := h.pick hi
  exact hp
theorem Sat.drop {w0 w : World} {L : List HP} (i : Nat) (h : Sat w0 w L) : Sat w0 w (L.eraseIdx i) := by
  rcases Nat.lt_or_ge i L.length with hi | hi
  · obtain ⟨h0, h1, h2, _, _, s2, _, hq⟩ := h.pick (i := i) (p := L[i]) (by simp [hi])
    exact ⟨h0, stars_mono _ _ _ s2 hq⟩
  · rw [List.eraseIdx_of_length_le hi]; exact h
/-- A list laid open in its place's stead, at the end. -/
theorem Sat.open {w0 w : World} {L M : List HP} {i : Nat} (h : Sat w0 w L) (hi : L[i]? = some (stars M)) : Sat w0 w (L.eraseIdx i ++ M) :=
  (h.pick hi).join.perm List.perm_append_comm
theorem Sat.openEx {w0 w : World} {L : List HP} {i : Nat} {p : HP} {φ : Prop} {q : HP} (h : Sat w0 w L) (hi : L[i]? = some p) (hp : ∀ g, p g → φ ∧ q g) :
    φ ∧ Sat w0 w (L.set i q) := by
  obtain ⟨h0, h1, h2, d, s1, s2, hp', hq⟩ := h.pick hi
  exact ⟨(hp _ hp').1, h0, stars_perm (perm_set (lt_of_pick hi) _) ⟨h1, h2, d, s1, s2, (hp _ hp').2, hq⟩⟩

/-- The assertions at these places come first; what is left is one assertion behind them. -/
def sel (idx : List Nat) (L : List HP) : List HP := idx.filterMap fun i => L[i]?
def rest (idx : List Nat) (L : List HP) : List HP := (L.zipIdx.filter fun x => !idx.contains x.2).map (·.1)
end Go.Sl
