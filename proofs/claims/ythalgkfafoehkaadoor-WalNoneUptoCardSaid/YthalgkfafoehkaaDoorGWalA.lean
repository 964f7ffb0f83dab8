/- Several texts of this proof in one. -/
import Derived.Test.YthalgkfafoehkaaDoorGDsk
import Derived.Test.YthalgkfafoehkaaDoorGSlB
/- Whole numbers in bytes; the checksum; the program's own functions for them (bits, crc). -/
namespace Go.Sl
open Go.Proofs

def leB : Nat → Nat → List UInt8
  | 0, _ => []
  | k + 1, n => UInt8.ofNat (n % 256) :: leB k (n / 256)
def leN : List UInt8 → Nat
  | [] => 0
  | b :: l => b.toNat + 256 * leN l
theorem leB_len : ∀ (k n : Nat), (leB k n).length = k
  | 0, _ => rfl
  | k + 1, n => by rw [leB, List.length_cons, leB_len]
theorem leN_lt : ∀ (l : List UInt8), leN l < 256 ^ l.length
  | [] => by decide
  | b :: l => by
    have h1 := leN_lt l
    have h2 := b.toNat_lt
    rw [leN, List.length_cons, Nat.pow_succ]
    omega
theorem leN_leB : ∀ (k n : Nat), leN (leB k n) = n % 256 ^ k
  | 0, n => by rw [Nat.pow_zero, Nat.mod_one]; rfl
  | k + 1, n => by
    rw [leB, leN, leN_leB, Nat.pow_succ', Nat.mod_mul]
    have : (UInt8.ofNat (n % 256)).toNat = n % 256 := by rw [UInt8.toNat_ofNat_of_lt' (by show n % 256 < 256; omega)]
    rw [this]
theorem leB_leN : ∀ (l : List UInt8), leB l.length (leN l) = l
  | [] => rfl
  | b :: l => by
    have h2 := b.toNat_lt
    rw [List.length_cons, leB, leN, show (b.toNat + 256 * leN l) / 256 = leN l by omega, leB_leN, show (b.toNat + 256 * leN l) % 256 = b.toNat by omega]
    congr 1
    exact UInt8.toNat_inj.1 (by rw [UInt8.toNat_ofNat_of_lt' h2])
theorem leN_snoc : ∀ (l : List UInt8) (b : UInt8), leN (l ++ [b]) = leN l + b.toNat * 256 ^ l.length
  | [], b => by simp [leN]
  | c :: l, b => by
    rw [List.cons_append, leN, leN, leN_snoc, List.length_cons, Nat.pow_succ, Nat.mul_add, Nat.add_assoc]
    congr 2
    rw [Nat.mul_comm 256, Nat.mul_assoc]
theorem leB_snoc : ∀ (k n : Nat), leB (k + 1) n = leB k n ++ [UInt8.ofNat (n / 256 ^ k % 256)]
  | 0, n => by rw [Nat.pow_zero, Nat.div_one]; rfl
  | k + 1, n => by
    rw [leB, leB_snoc k (n / 256), leB, List.cons_append, Nat.div_div_eq_div_mul, ← Nat.pow_succ']
/-- Bytes with other ones somewhere. -/
def pas (l : List UInt8) (k : Nat) (ds : List UInt8) : List UInt8 := l.take k ++ ds ++ l.drop (k + ds.length)
theorem bys_app (l m : List UInt8) : bys (l ++ m) = bys l ++ bys m := by unfold bys; rw [List.map_append]
theorem bys_pas (l : List UInt8) (k : Nat) (ds : List UInt8) : bys (pas l k ds) = pasted (bys l) k (bys ds) := by
  unfold pas pasted
  rw [bys_app, bys_app, bys_take, bys_drop, bys_length]
theorem pas_len {l ds : List UInt8} {k : Nat} (h : k + ds.length ≤ l.length) : (pas l k ds).length = l.length := by
  unfold pas
  rw [List.length_append, List.length_append, List.length_take, List.length_drop]; omega
theorem pas_snoc {l ds : List UInt8} {k : Nat} (b : UInt8) (h : k + ds.length < l.length) : (pas l k ds).set (k + ds.length) b = pas l k (ds ++ [b]) := by
  unfold pas
  have h1 : (l.take k ++ ds).length = k + ds.length := by rw [List.length_append, List.length_take]; omega
  rw [List.set_append_right _ _ (by omega), h1, Nat.sub_self, List.length_append, List.length_singleton]
  rw [List.drop_eq_getElem_cons h, List.set_cons_zero, ← Nat.add_assoc]
  simp
/-- .. where noughts stood. -/
theorem pas_zeros (A ds : List UInt8) (m : Nat) (h : ds.length ≤ m) : pas (A ++ List.replicate m 0) A.length ds = A ++ ds ++ List.replicate (m - ds.length) 0 := by
  unfold pas
  rw [List.take_left, List.drop_append, List.drop_eq_nil_of_le (by omega : A.length ≤ A.length + ds.length), List.nil_append, Nat.add_sub_cancel_left, List.drop_replicate]
theorem pas_zeros' (A ds : List UInt8) (k m : Nat) (hk : k = A.length) (h : ds.length ≤ m) : pas (A ++ List.replicate m 0) k ds = A ++ ds ++ List.replicate (m - ds.length) 0 := by
  subst hk; exact pas_zeros A ds m h

/-! ### bits -/
def There (n : Nat) (at_ size : Int) : Prop := 1 ≤ size ∧ size ≤ 4 ∧ 0 ≤ at_ ∧ at_ ≤ n ∧ size ≤ n - at_
instance (n : Nat) (at_ size : Int) : Decidable (There n at_ size) := by unfold There; infer_instance
theorem there_calls {w : World} {a : Option Addr} {n cap : Nat} (at_ size : Int) (hn : n ≤ 9223372036854775807) :
    Calls Tryd.prog 66 #[.slice a n cap, .int .i64 at_, .int .i64 size] w (Ret fun v w' => v = .bool (decide (There n at_ size)) ∧ w' = w) := by
  refine calls_of Tryd.func66 rfl rfl ?_
  refine WP_r rfl ?_
  refine s_val rfl (x_assign (by conv => lhs; whnf)) ?_
  refine s_end ?_
  refine WP_r rfl ?_
  refine s_val rfl (x_move (by conv => lhs; whnf)) ?_
  refine s_val rfl (x_geq rfl rfl) ?_
  refine s_dec rfl (x_move rfl) (fun h1 => ?_) (fun h1 => ?_)
  · skip
    refine s_val rfl (x_move (by conv => lhs; whnf)) ?_
    refine s_val rfl (x_leq rfl rfl) ?_
    refine s_val rfl (x_pick_true rfl (by conv => lhs; whnf)) ?_
    refine s_dec rfl (x_move rfl) (fun h2 => ?_) (fun h2 => ?_)
    · skip
      refine s_val rfl (x_move (by conv => lhs; whnf)) ?_
      refine s_val rfl (x_geq rfl rfl) ?_
      refine s_val rfl (x_pick_true rfl (by conv => lhs; whnf)) ?_
      refine s_dec rfl (x_move rfl) (fun h3 => ?_) (fun h3 => ?_)
      · skip
        refine s_val rfl (x_move (by conv => lhs; whnf)) ?_
        refine s_val rfl (x_move (by conv => lhs; whnf)) ?_
        refine s_val rfl (x_lenS (by kernel_rfl) rfl) ?_
        refine s_val rfl (x_leq rfl rfl) ?_
        refine s_val rfl (x_pick_true rfl (by conv => lhs; whnf)) ?_
        refine s_dec rfl (x_move rfl) (fun h4 => ?_) (fun h4 => ?_)
        · skip
          refine s_val rfl (x_move (by conv => lhs; whnf)) ?_
          refine s_val rfl (x_move (by conv => lhs; whnf)) ?_
          refine s_val rfl (x_lenS (by kernel_rfl) rfl) ?_
          refine s_val rfl (x_move (by conv => lhs; whnf)) ?_
          refine s_val rfl (x_subi rfl rfl (by omega)) ?_
          refine s_val rfl (x_leq rfl rfl) ?_
          refine s_val rfl (x_pick_true rfl (by conv => lhs; whnf)) ?_
          refine s_val rfl (x_assign (by conv => lhs; whnf)) ?_
          refine s_end ?_
          refine WP_ret ?_
          refine retQ_1 rfl (by conv => lhs; whnf) ?_
          exact ⟨by first | rw [decide_eq_false (p := There n at_ size) (by unfold There; omega)] | (congr 1; exact decide_eq_decide.2 (by unfold There; omega)), rfl⟩
        · skip
          refine s_out rfl ?_
          refine s_out rfl ?_
          refine s_out rfl ?_
          refine s_out rfl ?_
          refine s_out rfl ?_
          refine s_out rfl ?_
          refine s_val rfl (x_pick_false rfl (by conv => lhs; whnf)) ?_
          refine s_val rfl (x_assign (by conv => lhs; whnf)) ?_
          refine s_end ?_
          refine WP_ret ?_
          refine retQ_1 rfl (by conv => lhs; whnf) ?_
          exact ⟨by first | rw [decide_eq_false (p := There n at_ size) (by unfold There; omega)] | (congr 1; exact decide_eq_decide.2 (by unfold There; omega)), rfl⟩
      · skip
        refine s_out rfl ?_
        refine s_out rfl ?_
        refine s_out rfl ?_
        refine s_out rfl ?_
        refine s_val rfl (x_pick_false rfl (by conv => lhs; whnf)) ?_
        refine s_val rfl (x_move (by conv => lhs; whnf)) ?_
        refine s_out rfl ?_
        refine s_out rfl ?_
        refine s_out rfl ?_
        refine s_out rfl ?_
        refine s_out rfl ?_
        refine s_out rfl ?_
        refine s_val rfl (x_pick_false rfl (by conv => lhs; whnf)) ?_
        refine s_val rfl (x_assign (by conv => lhs; whnf)) ?_
        refine s_end ?_
        refine WP_ret ?_
        refine retQ_1 rfl (by conv => lhs; whnf) ?_
        exact ⟨by first | rw [decide_eq_false (p := There n at_ size) (by unfold There; omega)] | (congr 1; exact decide_eq_decide.2 (by unfold There; omega)), rfl⟩
    · skip
      refine s_out rfl ?_
      refine s_out rfl ?_
      refine s_val rfl (x_pick_false rfl (by conv => lhs; whnf)) ?_
      refine s_val rfl (x_move (by conv => lhs; whnf)) ?_
      refine s_out rfl ?_
      refine s_out rfl ?_
      refine s_out rfl ?_
      refine s_out rfl ?_
      refine s_val rfl (x_pick_false rfl (by conv => lhs; whnf)) ?_
      refine s_val rfl (x_move (by conv => lhs; whnf)) ?_
      refine s_out rfl ?_
      refine s_out rfl ?_
      refine s_out rfl ?_
      refine s_out rfl ?_
      refine s_out rfl ?_
      refine s_out rfl ?_
      refine s_val rfl (x_pick_false rfl (by conv => lhs; whnf)) ?_
      refine s_val rfl (x_assign (by conv => lhs; whnf)) ?_
      refine s_end ?_
      refine WP_ret ?_
      refine retQ_1 rfl (by conv => lhs; whnf) ?_
      exact ⟨by first | rw [decide_eq_false (p := There n at_ size) (by unfold There; omega)] | (congr 1; exact decide_eq_decide.2 (by unfold There; omega)), rfl⟩
  · skip
    refine s_out rfl ?_
    refine s_out rfl ?_
    refine s_val rfl (x_pick_false rfl (by conv => lhs; whnf)) ?_
    refine s_val rfl (x_move (by conv => lhs; whnf)) ?_
    refine s_out rfl ?_
    refine s_out rfl ?_
    refine s_val rfl (x_pick_false rfl (by conv => lhs; whnf)) ?_
    refine s_val rfl (x_move (by conv => lhs; whnf)) ?_
    refine s_out rfl ?_
    refine s_out rfl ?_
    refine s_out rfl ?_
    refine s_out rfl ?_
    refine s_val rfl (x_pick_false rfl (by conv => lhs; whnf)) ?_
    refine s_val rfl (x_move (by conv => lhs; whnf)) ?_
    refine s_out rfl ?_
    refine s_out rfl ?_
    refine s_out rfl ?_
    refine s_out rfl ?_
    refine s_out rfl ?_
    refine s_out rfl ?_
    refine s_val rfl (x_pick_false rfl (by conv => lhs; whnf)) ?_
    refine s_val rfl (x_assign (by conv => lhs; whnf)) ?_
    refine s_end ?_
    refine WP_ret ?_
    refine retQ_1 rfl (by conv => lhs; whnf) ?_
    exact ⟨by first | rw [decide_eq_false (p := There n at_ size) (by unfold There; omega)] | (congr 1; exact decide_eq_decide.2 (by unfold There; omega)), rfl⟩
theorem x_conv8 {P : Program} {ρ : Fr} {w : World} {ty s d : TypeId} {x : Operand} {b : UInt8} (hs : intB P s .u8 = true) (hd : intB P d .u32 = true) (hx : ev ρ x = .int .u8 b.toNat) : Ev1 P (.convert s d x) ty ρ w (.int .u32 (b.toNat : Nat)) w := by
  have h := x_convI (ty := ty) (w := w) hs hd hx
  rwa [wrap_u32 _ (by have := b.toNat_lt; omega)] at h
theorem x_shlZ {P : Program} {ρ : Fr} {w : World} {ty t yt : TypeId} {x y : Operand} {k' : IntKind} {m s : Nat} {z : Int} (hx : ev ρ x = .int .u32 m) (hy : ev ρ y = .int k' z) (hz : z = s) (hs : s ≤ 32) (hb : m * 2 ^ s < 4294967296) : Ev1 P (.binOp .shl t x y yt) ty ρ w (.int .u32 ((m * 2 ^ s : Nat) : Int)) w :=
  x_shlN hx (by rw [hy, hz]) hs hb
theorem x_shrZ {P : Program} {ρ : Fr} {w : World} {ty t yt : TypeId} {x y : Operand} {k k' : IntKind} {m s : Nat} {u z : Int} (hx : ev ρ x = .int k u) (hy : ev ρ y = .int k' z) (hu : u = m) (hz : z = s) (hs : s ≤ k.bits) : Ev1 P (.binOp .shr t x y yt) ty ρ w (.int k ((m / 2 ^ s : Nat) : Int)) w :=
  x_shr (by rw [hx, hu]) (by rw [hy, hz]) hs
theorem x_conv_byte {P : Program} {ρ : Fr} {w : World} {ty s d : TypeId} {x : Operand} {m : Nat} (hs : intB P s .i64 = true) (hd : intB P d .u8 = true) (hx : ev ρ x = .int .i64 m) : Ev1 P (.convert s d x) ty ρ w (by1 (UInt8.ofNat (m % 256))) w := by
  have h := x_convI (ty := ty) (w := w) hs hd hx
  have e : IntKind.u8.wrap (m : Int) = ((UInt8.ofNat (m % 256)).toNat : Int) := by
    rw [UInt8.toNat_ofNat_of_lt' (by show m % 256 < 256; omega), IntKind.wrap_u8]; omega
  rw [e] at h
  exact h
theorem x_lss_false {P : Program} {ρ : Fr} {w : World} {ty t yt : TypeId} {x y : Operand} {k : IntKind} {a b : Int} (hx : ev ρ x = .int k a) (hy : ev ρ y = .int k b) (h : ¬ a < b) : Ev1 P (.binOp .lss t x y yt) ty ρ w (.bool false) w := by
  have h1 := x_lss (P := P) (ty := ty) (w := w) (t := t) (yt := yt) hx hy
  rwa [decide_eq_false h] at h1
theorem x_neq_of {P : Program} {ρ : Fr} {w : World} {ty t yt : TypeId} {x y : Operand} {k : IntKind} {a b : Int} (h : a = b) (hx : ev ρ x = .int k a) (hy : ev ρ y = .int k b) : Ev1 P (.binOp .neq t x y yt) ty ρ w (.bool false) w := by
  have h1 := x_neq (P := P) (ty := ty) (w := w) (t := t) (yt := yt) hx hy
  rwa [decide_eq_false (fun q => q h)] at h1
theorem or_add {acc b i : Nat} (h : acc < 256 ^ i) : acc ||| b * 2 ^ (8 * i) = acc + b * 256 ^ i := by
  have e : (256 : Nat) ^ i = 2 ^ (8 * i) := by rw [Nat.pow_mul]
  rw [e] at h ⊢
  rw [Nat.mul_comm b, Nat.or_comm, ← Nat.two_pow_add_eq_or_of_lt h]; omega
theorem pow_le32 {i : Nat} (h : i ≤ 4) : 256 ^ i ≤ 4294967296 := by
  rcases (by omega : i = 0 ∨ i = 1 ∨ i = 2 ∨ i = 3 ∨ i = 4) with rfl | rfl | rfl | rfl | rfl <;> decide
def getN (bs : List UInt8) (at_ size : Int) : Int × Int := if There bs.length at_ size then ((leN ((bs.drop at_.toNat).take size.toNat) : Nat), 0) else (0, 2)
theorem Get_calls {w : World} {a : Option Addr} {n cap : Nat} {bs : List UInt8} (HR : Rd w a n cap 1 (bys bs)) (at_ size : Int) (hn : n ≤ 9223372036854775807) :
    Calls Tryd.prog 52 #[.slice a n cap, .int .i64 at_, .int .i64 size] w (Ret fun v w' => v = .tuple #[.int .i64 (getN bs at_ size).1, .int .i64 (getN bs at_ size).2] ∧ w' = w) := by
  have hl : bs.length = n := by have := HR.1; rw [bys_length] at this; omega
  refine calls_of Tryd.func52 rfl rfl ?_
  refine WP_r rfl ?_
  refine s_val rfl (x_assign (by conv => lhs; whnf)) ?_
  refine s_val rfl (x_assign (by conv => lhs; whnf)) ?_
  refine s_end ?_
  refine WP_seq ?_
  refine WP_r rfl ?_
  refine s_val rfl (x_move (by conv => lhs; whnf)) ?_
  refine s_val rfl (x_move (by conv => lhs; whnf)) ?_
  refine s_val rfl (x_move (by conv => lhs; whnf)) ?_
  refine s_call rfl (by kernel_rfl) (there_calls at_ size hn) rfl rfl ?_
  rintro _ w_ ⟨rfl, e_⟩; replace e_ := e_.symm; subst e_
  refine s_val rfl (x_not rfl) ?_
  refine s_end ?_
  refine WP_cond rfl (fun h1 => ?_) (fun h1 => ?_)
  · have hT : ¬ There bs.length at_ size := by rw [hl]; intro h; rw [decide_eq_true h] at h1; cases h1
    refine WP_r rfl ?_
    refine s_val rfl (x_assign (by conv => lhs; whnf)) ?_
    refine s_val rfl (x_assign (by conv => lhs; whnf)) ?_
    refine s_end ?_
    refine WP_ret ?_
    refine thenQ_r ?_
    refine retQ_2 rfl (by conv => lhs; whnf) (by conv => lhs; whnf) ?_
    exact ⟨by unfold getN; rw [if_neg hT], rfl⟩
  · skip
    refine WP_skip ?_
    refine thenQ_n ?_
    have hT : There n at_ size := by revert h1; intro h; exact of_decide_eq_true (by simpa using h)
    obtain ⟨hs1, hs4, ha0, han, hsn⟩ := id hT
    obtain ⟨sz, rfl⟩ : ∃ sz : Nat, size = sz := ⟨size.toNat, by omega⟩
    obtain ⟨ap, rfl⟩ : ∃ ap : Nat, at_ = ap := ⟨at_.toNat, by omega⟩
    refine WP_r rfl ?_
    refine s_val rfl (x_assign (by conv => lhs; whnf)) ?_
    refine s_end ?_
    refine WP_seq ?_
    refine WP_r rfl ?_
    refine s_val rfl (x_move (by conv => lhs; whnf)) ?_
    refine s_val rfl (x_move (by conv => lhs; whnf)) ?_
    refine s_end ?_
    refine WP_block ?_
    refine WP_loopA (α := Nat) (fun k => [(0, .slice a n cap), (1, .int .i64 ap), (2, .int .i64 sz), (8, .int .u32 (leN ((bs.drop ap).take k) : Nat)), (15, .int .i64 sz), (16, .int .i64 k)]) (fun k w' => k ≤ sz ∧ w' = w) (fun k => sz - k) 0 ⟨rfl, rfl, rfl, rfl, rfl, rfl, trivial⟩ ⟨Nat.zero_le _, rfl⟩ ?_
    rintro k ρ w1 ⟨hk, e1⟩
    replace e1 := e1.symm
    subst e1
    have hlen : ((bs.drop ap).take k).length = k := by rw [List.length_take, List.length_drop]; omega
    have hlt := leN_lt ((bs.drop ap).take k)
    rw [hlen] at hlt
    have hp4 := pow_le32 (i := k) (by omega)
    refine WP_r rfl ?_
    refine s_val rfl (x_lss rfl rfl) ?_
    refine s_end ?_
    refine WP_seq ?_
    refine WP_cond_dec rfl (fun h2 => ?_) (fun h2 => ?_)
    · skip
      refine WP_skip ?_
      refine thenQ_n ?_
      refine WP_seq ?_
      refine WP_block ?_
      have hks : k < sz := by omega
      obtain ⟨b, hb, hb2⟩ := rd_get HR (ap + k) (by omega)
      have hbt := b.toNat_lt
      have hp5 := pow_le32 (i := k + 1) (by omega)
      have hm : b.toNat * 256 ^ k < 4294967296 := by
        rw [Nat.pow_succ] at hp5
        have h3 : 256 ^ k * b.toNat < 256 ^ k * 256 := Nat.mul_lt_mul_of_pos_left (by omega) (Nat.pow_pos (by decide))
        rw [Nat.mul_comm]; omega
      have e256 : (256 : Nat) ^ k = 2 ^ (8 * k) := by rw [Nat.pow_mul]
      have hel : ∀ j, j = ap + k → (bys bs)[j]? = some (by1 b) := fun j hj => by subst hj; exact hb2
      have hsnoc : (bs.drop ap).take (k + 1) = (bs.drop ap).take k ++ [b] := by rw [List.take_add_one, List.getElem?_drop, hb]; rfl
      refine WP_r rfl ?_
      refine s_val rfl (x_move (by conv => lhs; whnf)) ?_
      refine s_val rfl (x_assign (by conv => lhs; whnf)) ?_
      refine s_end ?_
      refine WP_region rfl ?_
      refine s_val rfl (x_move (by conv => lhs; whnf)) ?_
      refine s_val rfl (x_move (by conv => lhs; whnf)) ?_
      refine s_val rfl (x_move (by conv => lhs; whnf)) ?_
      refine s_val rfl (x_move (by conv => lhs; whnf)) ?_
      refine s_val rfl (x_addi rfl rfl (by omega)) ?_
      refine s_val rfl (x_index (show SlT Tryd.prog 44 5 1 1 from ⟨by kernel_rfl, by kernel_rfl⟩) rfl rfl (by omega) (by omega) HR) ?_
      refine s_val rfl (x_loadR (by kernel_rfl) rfl HR (hel _ (by omega))) ?_
      refine s_val rfl (x_conv8 (b := b) (by kernel_rfl) (by kernel_rfl) rfl) ?_
      refine s_val rfl (x_move (by conv => lhs; whnf)) ?_
      refine s_val rfl (x_muli rfl rfl (by omega)) ?_
      refine s_val rfl (x_shlZ (s := 8 * k) rfl rfl (by omega) (by omega) (by rw [← e256]; exact hm)) ?_
      refine s_val rfl (x_orN rfl rfl (by omega) (by rw [← e256]; exact hm)) ?_
      rw [or_add hlt]
      refine s_val rfl (x_assign (by conv => lhs; whnf)) ?_
      refine s_end ?_
      refine blockQ_n ?_
      refine thenQ_n ?_
      refine WP_region rfl ?_
      refine s_val rfl (x_addi rfl rfl (by omega)) ?_
      refine s_val rfl (x_move (by conv => lhs; whnf)) ?_
      refine s_end ?_
      refine loopQ_A (k + 1) (by omega) ⟨rfl, rfl, rfl, by rw [hsnoc, leN_snoc, hlen]; rfl, rfl, rfl, trivial⟩ ⟨by omega, rfl⟩
    · skip
      refine WP_exit ?_
      refine thenQ_e ?_
      refine loopQ_e ?_
      refine blockQ_hit ?_
      have hke : k = sz := by omega
      subst hke
      refine thenQ_n ?_
      refine WP_r rfl ?_
      refine s_val rfl (x_move (by conv => lhs; whnf)) ?_
      refine s_val rfl (x_convI (q := .u32) (k' := .i64) (by kernel_rfl) (by kernel_rfl) rfl) ?_
      refine s_val rfl (x_assign (by conv => lhs; whnf)) ?_
      refine s_val rfl (x_assign (by conv => lhs; whnf)) ?_
      refine s_end ?_
      refine WP_ret ?_
      refine retQ_2 rfl (by conv => lhs; whnf) (by conv => lhs; whnf) ?_
      refine ⟨?_, rfl⟩
      unfold getN
      rw [if_pos (by rw [hl]; exact hT), IntWalk.i64_in _ (by omega)]
      rfl
/-- What a number must be, to be put. -/
def PutOk (n : Nat) (at_ size v : Int) : Prop := There n at_ size ∧ 0 ≤ v ∧ v < 256 ^ size.toNat
theorem Put_calls {w : World} {a : Option Addr} {n cap : Nat} {bs : List UInt8} (HR : Rd w a n cap 1 (bys bs)) (ap sz m : Nat) (hT : There n ap sz) (hm : m < 256 ^ sz) (hn : n ≤ 140737488355328) :
    Calls Tryd.prog 68 #[.slice a n cap, .int .i64 ap, .int .i64 sz, .int .i64 m] w (Ret fun v w' => ∃ a' cap', v = .tuple #[.slice a' n cap', .int .i64 0] ∧ Sat w w' [slo 5 1 a' n cap' (bys (pas bs ap (leB sz m)))]) := by
  have hl : bs.length = n := by have := HR.1; rw [bys_length] at this; omega
  obtain ⟨hs1, hs4, ha0, han, hsn⟩ := id hT
  have hp4 := pow_le32 (i := sz) (by omega)
  have e256 : ∀ k : Nat, (256 : Nat) ^ k = 2 ^ (8 * k) := fun k => by rw [Nat.pow_mul]
  refine calls_of Tryd.func68 rfl rfl ?_
  refine WP_r rfl ?_
  refine s_val rfl (x_assign (by conv => lhs; whnf)) ?_
  refine s_val rfl (x_assign (by conv => lhs; whnf)) ?_
  refine s_end ?_
  refine WP_seq ?_
  refine WP_r rfl ?_
  refine s_val rfl (x_move (by conv => lhs; whnf)) ?_
  refine s_val rfl (x_move (by conv => lhs; whnf)) ?_
  refine s_val rfl (x_move (by conv => lhs; whnf)) ?_
  refine s_call rfl (by kernel_rfl) (there_calls ap sz (by omega)) rfl rfl ?_
  rintro _ w_ ⟨rfl, e_⟩; replace e_ := e_.symm; subst e_
  rw [decide_eq_true hT]
  refine s_val rfl (x_not rfl) ?_
  refine s_val rfl (x_move (by conv => lhs; whnf)) ?_
  refine s_val rfl (x_move (by conv => lhs; whnf)) ?_
  refine s_val rfl (x_lss_false rfl rfl (by omega)) ?_
  refine s_val rfl (x_pick_false rfl (by conv => lhs; whnf)) ?_
  refine s_val rfl (x_move (by conv => lhs; whnf)) ?_
  refine s_val rfl (x_move (by conv => lhs; whnf)) ?_
  refine s_val rfl (x_move (by conv => lhs; whnf)) ?_
  refine s_val rfl (x_muli rfl rfl (by omega)) ?_
  refine s_val rfl (x_shrZ (m := m) (s := 8 * sz) rfl rfl rfl (by omega) (by show 8 * sz ≤ 64; omega)) ?_
  refine s_val rfl (x_neq_of (a := ((m / 2 ^ (8 * sz) : Nat) : Int)) (b := 0) (by rw [← e256, Nat.div_eq_of_lt hm]; rfl) rfl rfl) ?_
  refine s_val rfl (x_pick_false rfl (by conv => lhs; whnf)) ?_
  refine s_end ?_
  refine WP_cond_false rfl ?_
  refine WP_skip ?_
  refine thenQ_n ?_
  refine WP_r rfl ?_
  refine s_val rfl (x_move (by conv => lhs; whnf)) ?_
  refine s_call rfl (by kernel_rfl) (CloneB_calls HR hn) rfl rfl ?_
  rintro _ _ ⟨a2, c2, rfl, H⟩
  refine s_val rfl (x_assign (by conv => lhs; whnf)) ?_
  refine s_end ?_
  refine WP_seq ?_
  refine WP_r rfl ?_
  refine s_val rfl (x_move (by conv => lhs; whnf)) ?_
  refine s_val rfl (x_move (by conv => lhs; whnf)) ?_
  refine s_end ?_
  refine WP_block ?_
  refine WP_loopA (α := Nat) (fun k => [(1, .int .i64 ap), (3, .int .i64 m), (10, .slice a2 n c2), (30, .int .i64 sz), (31, .int .i64 k)]) (fun k w' => k ≤ sz ∧ Sat w w' [slo 5 1 a2 n c2 (bys (pas bs ap (leB k m)))]) (fun k => sz - k) 0 ⟨rfl, rfl, rfl, rfl, rfl, trivial⟩ ⟨Nat.zero_le _, by rw [show pas bs ap (leB 0 m) = bs by unfold pas leB; simp]; exact H⟩ ?_
  clear H
  rintro k ρ w1 ⟨hk, H⟩
  refine WP_r rfl ?_
  refine s_val rfl (x_lss rfl rfl) ?_
  refine s_end ?_
  refine WP_seq ?_
  refine WP_cond_dec rfl (fun h1 => ?_) (fun h1 => ?_)
  · skip
    refine WP_skip ?_
    refine thenQ_n ?_
    refine WP_seq ?_
    refine WP_block ?_
    have hks : k < sz := by omega
    have HR2 := H.rd (i := 0) rfl
    have hll := leB_len k m
    have hpl : (bys (pas bs ap (leB k m))).length = n := by rw [bys_length, pas_len (by omega), hl]
    have hst : (bys (pas bs ap (leB k m))).set (ap + k) (.int .u8 (UInt8.ofNat (m / 256 ^ k % 256)).toNat) = bys (pas bs ap (leB (k + 1) m)) := by
      show (bys (pas bs ap (leB k m))).set (ap + k) (by1 (UInt8.ofNat (m / 256 ^ k % 256))) = _
      rw [leB_snoc, ← pas_snoc _ (by omega), hll]
      unfold bys; rw [List.map_set]
    refine WP_r rfl ?_
    refine s_val rfl (x_move (by conv => lhs; whnf)) ?_
    refine s_val rfl (x_assign (by conv => lhs; whnf)) ?_
    refine s_end ?_
    refine WP_region rfl ?_
    refine s_val rfl (x_move (by conv => lhs; whnf)) ?_
    refine s_val rfl (x_move (by conv => lhs; whnf)) ?_
    refine s_val rfl (x_move (by conv => lhs; whnf)) ?_
    refine s_val rfl (x_addi rfl rfl (by omega)) ?_
    refine s_val rfl (x_move (by conv => lhs; whnf)) ?_
    refine s_val rfl (x_move (by conv => lhs; whnf)) ?_
    refine s_val rfl (x_muli rfl rfl (by omega)) ?_
    refine s_val rfl (x_shrZ (m := m) (s := 8 * k) rfl rfl rfl (by omega) (by show 8 * k ≤ 64; omega)) ?_
    refine s_val rfl (x_conv_byte (by kernel_rfl) (by kernel_rfl) rfl) ?_
    rw [← e256]
    refine s_val rfl (x_index (show SlT Tryd.prog 44 5 1 1 from ⟨by kernel_rfl, by kernel_rfl⟩) rfl rfl (by omega) (by omega) HR2) ?_
    refine s_storeO rfl (by kernel_rfl) rfl (by conv => lhs; whnf) rfl H (i := 0) rfl (by omega) ?_
    clear H HR2
    intro w5 H
    simp only [List.set_cons_zero] at H
    rw [show ((ap : Int) + (k : Int)).toNat * 1 = ap + k by omega, hst] at H
    refine s_end ?_
    refine blockQ_n ?_
    refine thenQ_n ?_
    refine WP_region rfl ?_
    refine s_val rfl (x_addi rfl rfl (by omega)) ?_
    refine s_val rfl (x_move (by conv => lhs; whnf)) ?_
    refine s_end ?_
    refine loopQ_A (k + 1) (by omega) ⟨rfl, rfl, rfl, rfl, rfl, trivial⟩ ⟨by omega, H⟩
  · skip
    refine WP_exit ?_
    refine thenQ_e ?_
    refine loopQ_e ?_
    refine blockQ_hit ?_
    refine thenQ_n ?_
    refine WP_r rfl ?_
    refine s_val rfl (x_move (by conv => lhs; whnf)) ?_
    refine s_val rfl (x_assign (by conv => lhs; whnf)) ?_
    refine s_val rfl (x_assign (by conv => lhs; whnf)) ?_
    refine s_end ?_
    refine WP_ret ?_
    refine retQ_2 rfl (by conv => lhs; whnf) (by conv => lhs; whnf) ?_
    have hke : k = sz := by omega
    subst hke
    exact ⟨a2, c2, rfl, H⟩
end Go.Sl
/- The checksum; a log's header. -/
namespace Go.Sl
open Go.Proofs

/-- The table of half bytes. -/
def halfT : List UInt32 := [0x00000000, 0x1db71064, 0x3b6e20c8, 0x26d930ac, 0x76dc4190, 0x6b6b51f4, 0x4db26158, 0x5005713c, 0xedb88320, 0xf00f9344, 0xd6d6a3e8, 0xcb61b38c, 0x9b64c2b0, 0x86d3d2d4, 0xa00ae278, 0xbdbdf21c]
/-- The program's table holds it. -/
def Half (w : World) : Prop := ∀ i, i < 16 → w.cell? ⟨0, i, none⟩ = some (.int .u32 (halfT.getD i 0).toNat)
theorem Half.ext {w w' : World} (h : Half w) (e : Ext w w') : Half w' := fun i hi => e.cell (h i hi)
theorem Half.heapEq {w w' : World} (h : Half w) (e : core w' = core w) : Half w' := fun i hi => cell_heapEq e (h i hi)
def ctn (c : UInt32) : UInt32 := (c >>> 4) ^^^ halfT.getD (c &&& 15).toNat 0
def crcM (c : UInt32) (l : List UInt8) : UInt32 := (l.foldl (fun c b => ctn (ctn (c ^^^ b.toUInt32))) (c ^^^ 4294967295)) ^^^ 4294967295
theorem and15 (c : UInt32) : (c &&& 15).toNat < 16 := by
  rw [UInt32.toNat_and]
  exact Nat.lt_of_le_of_lt Nat.and_le_right (by decide)
theorem turn_calls {w : World} (hh : Half w) (c : UInt32) : Calls Tryd.prog 85 #[.int .u32 c.toNat] w (Ret fun v w' => v = .int .u32 (ctn c).toNat ∧ w' = w) := by
  have h15 := and15 c
  refine calls_of Tryd.func85 rfl rfl ?_
  refine WP_r rfl ?_
  refine s_val rfl (x_assign (by conv => lhs; whnf)) ?_
  refine s_end ?_
  refine WP_r rfl ?_
  refine s_val rfl (x_move (by conv => lhs; whnf)) ?_
  refine s_val rfl (x_shrZ (m := c.toNat) (s := 4) rfl rfl rfl rfl (by decide)) ?_
  rw [show ((c.toNat / 2 ^ 4 : Nat)) = (c >>> 4).toNat by rw [UInt32.toNat_shiftRight, Nat.shiftRight_eq_div_pow]; rfl]
  refine s_val rfl (x_move (by conv => lhs; whnf)) ?_
  refine s_val rfl (x_and32 (c := c) (d := 15) rfl rfl) ?_
  refine s_val rfl (x_indexArr (e := 100) (m := 16) (sz := 1) (j := (c &&& 15).toNat) (by kernel_rfl) (by kernel_rfl) rfl rfl h15) ?_
  refine s_val rfl (x_load (by kernel_rfl) rfl (by rw [Nat.zero_add, Nat.mul_one]; exact hh _ h15)) ?_
  refine s_val rfl (x_xor32 (c := c >>> 4) (d := halfT.getD (c &&& 15).toNat 0) rfl rfl) ?_
  refine s_val rfl (x_assign (by conv => lhs; whnf)) ?_
  refine s_end ?_
  refine WP_ret ?_
  refine retQ_1 rfl (by conv => lhs; whnf) ?_
  exact ⟨rfl, rfl⟩
theorem More_calls {w : World} (hh : Half w) (c : UInt32) {a : Option Addr} {n cap : Nat} {bs : List UInt8} (HR : Rd w a n cap 1 (bys bs)) (hn : n ≤ 4611686018427387904) :
    Calls Tryd.prog 69 #[.int .u32 c.toNat, .slice a n cap] w (Ret fun v w' => v = .int .u32 (crcM c bs).toNat ∧ w' = w) := by
  have hl : bs.length = n := by have := HR.1; rw [bys_length] at this; omega
  refine calls_of Tryd.func69 rfl rfl ?_
  refine WP_r rfl ?_
  refine s_val rfl (x_assign (by conv => lhs; whnf)) ?_
  refine s_end ?_
  refine WP_r rfl ?_
  refine s_val rfl (x_move (by conv => lhs; whnf)) ?_
  refine s_val rfl (x_not32 (c := c) rfl) ?_
  refine s_val rfl (x_assign (by conv => lhs; whnf)) ?_
  refine s_end ?_
  refine WP_seq ?_
  refine WP_r rfl ?_
  refine s_val rfl (x_move (by conv => lhs; whnf)) ?_
  refine s_val rfl (x_lenS (by kernel_rfl) rfl) ?_
  refine s_val rfl (x_move (by conv => lhs; whnf)) ?_
  refine s_end ?_
  refine WP_block ?_
  refine WP_loopA (α := Nat) (fun k => [(5, .int .u32 ((bs.take k).foldl (fun c b => ctn (ctn (c ^^^ b.toUInt32))) (c ^^^ 4294967295)).toNat), (10, .slice a n cap), (11, .int .i64 n), (12, .int .i64 k)]) (fun k w' => k ≤ n ∧ w' = w) (fun k => n - k) 0 ⟨rfl, rfl, rfl, rfl, trivial⟩ ⟨Nat.zero_le _, rfl⟩ ?_
  rintro k ρ w1 ⟨hk, e1⟩
  replace e1 := e1.symm
  subst e1
  refine WP_r rfl ?_
  refine s_val rfl (x_lss rfl rfl) ?_
  refine s_end ?_
  refine WP_seq ?_
  refine WP_cond_dec rfl (fun h1 => ?_) (fun h1 => ?_)
  · skip
    refine WP_skip ?_
    refine thenQ_n ?_
    refine WP_seq ?_
    refine WP_block ?_
    obtain ⟨b, hb, hb2⟩ := rd_get HR k (by omega)
    have hel : ∀ j, j = k → (bys bs)[j]? = some (by1 b) := fun j hj => by subst hj; exact hb2
    have hsn : (bs.take (k + 1)).foldl (fun c b => ctn (ctn (c ^^^ b.toUInt32))) (c ^^^ 4294967295) = ctn (ctn ((bs.take k).foldl (fun c b => ctn (ctn (c ^^^ b.toUInt32))) (c ^^^ 4294967295) ^^^ b.toUInt32)) := by
      rw [List.take_add_one, hb]; simp only [Option.toList_some, List.foldl_append, List.foldl_cons, List.foldl_nil]
    generalize (bs.take k).foldl (fun c b => ctn (ctn (c ^^^ b.toUInt32))) (c ^^^ 4294967295) = q at hsn ⊢
    refine WP_r rfl ?_
    refine s_val rfl (x_index (show SlT Tryd.prog 44 5 1 1 from ⟨by kernel_rfl, by kernel_rfl⟩) rfl rfl (by omega) (by omega) HR) ?_
    refine s_val rfl (x_loadR (by kernel_rfl) rfl HR (hel _ (by omega))) ?_
    refine s_val rfl (x_assign (by conv => lhs; whnf)) ?_
    refine s_end ?_
    refine WP_region rfl ?_
    refine s_val rfl (x_move (by conv => lhs; whnf)) ?_
    refine s_val rfl (x_move (by conv => lhs; whnf)) ?_
    refine s_val rfl (x_conv8 (b := b) (by kernel_rfl) (by kernel_rfl) rfl) ?_
    rw [show (b.toNat : Nat) = b.toUInt32.toNat by rw [UInt8.toNat_toUInt32]]
    refine s_val rfl (x_xor32 (c := q) (d := b.toUInt32) rfl rfl) ?_
    refine s_call rfl (by kernel_rfl) (turn_calls hh (q ^^^ b.toUInt32)) rfl rfl ?_
    rintro _ w_ ⟨rfl, e_⟩; replace e_ := e_.symm; subst e_
    refine s_call rfl (by kernel_rfl) (turn_calls hh (ctn (q ^^^ b.toUInt32))) rfl rfl ?_
    rintro _ w_ ⟨rfl, e_⟩; replace e_ := e_.symm; subst e_
    refine s_val rfl (x_assign (by conv => lhs; whnf)) ?_
    refine s_end ?_
    refine blockQ_n ?_
    refine thenQ_n ?_
    refine WP_region rfl ?_
    refine s_val rfl (x_addi rfl rfl (by omega)) ?_
    refine s_val rfl (x_move (by conv => lhs; whnf)) ?_
    refine s_end ?_
    refine loopQ_A (k + 1) (by omega) ⟨by rw [hsn]; rfl, rfl, rfl, rfl, trivial⟩ ⟨by omega, rfl⟩
  · skip
    refine WP_exit ?_
    refine thenQ_e ?_
    refine loopQ_e ?_
    refine blockQ_hit ?_
    have hke : k = n := by omega
    subst hke
    rw [show bs.take k = bs from List.take_of_length_le (by omega)]
    generalize hq : bs.foldl (fun c b => ctn (ctn (c ^^^ b.toUInt32))) (c ^^^ 4294967295) = q
    refine thenQ_n ?_
    refine WP_r rfl ?_
    refine s_val rfl (x_move (by conv => lhs; whnf)) ?_
    refine s_val rfl (x_not32 (c := q) rfl) ?_
    refine s_val rfl (x_assign (by conv => lhs; whnf)) ?_
    refine s_end ?_
    refine WP_ret ?_
    refine retQ_1 rfl (by conv => lhs; whnf) ?_
    exact ⟨by unfold crcM; rw [hq], rfl⟩
theorem Sum_calls {w : World} (hh : Half w) {a : Option Addr} {n cap : Nat} {bs : List UInt8} (HR : Rd w a n cap 1 (bys bs)) (hn : n ≤ 4611686018427387904) :
    Calls Tryd.prog 70 #[.slice a n cap] w (Ret fun v w' => v = .int .u32 (crcM 0 bs).toNat ∧ w' = w) := by
  refine calls_of Tryd.func70 rfl rfl ?_
  refine WP_r rfl ?_
  refine s_val rfl (x_assign (by conv => lhs; whnf)) ?_
  refine s_end ?_
  refine WP_r rfl ?_
  refine s_val rfl (x_move (by conv => lhs; whnf)) ?_
  refine s_call rfl (by kernel_rfl) (More_calls hh 0 HR hn) rfl rfl ?_
  rintro _ w_ ⟨rfl, e_⟩; replace e_ := e_.symm; subst e_
  refine s_val rfl (x_assign (by conv => lhs; whnf)) ?_
  refine s_end ?_
  refine WP_ret ?_
  refine retQ_1 rfl (by conv => lhs; whnf) ?_
  exact ⟨rfl, rfl⟩
/-- A header's first bytes. -/
def hdr0 (turn : Nat) (homes : List Nat) : List UInt8 := ([83, 76, 79, 71] : List UInt8) ++ leB 4 turn ++ leB 2 homes.length ++ homes.flatMap (leB 2) ++ List.replicate (242 - 2 * homes.length) 0
/-- A log's header. -/
def hdr (turn : Nat) (homes : List Nat) (data : List UInt8) : List UInt8 := hdr0 turn homes ++ leB 4 (crcM (crcM 0 (hdr0 turn homes)) data).toNat
theorem flat2_len (homes : List Nat) : (homes.flatMap (leB 2)).length = 2 * homes.length := by
  induction homes with
  | nil => rfl
  | cons h l ih => rw [List.flatMap_cons, List.length_append, ih, leB_len, List.length_cons]; omega
theorem hdr0_len (turn : Nat) (homes : List Nat) (h : homes.length ≤ 121) : (hdr0 turn homes).length = 252 := by
  unfold hdr0
  simp only [List.length_append, leB_len, flat2_len, List.length_replicate, List.length_cons, List.length_nil]; omega
theorem hdr_len (turn : Nat) (homes : List Nat) (data : List UInt8) (h : homes.length ≤ 121) : (hdr turn homes data).length = 256 := by
  unfold hdr
  rw [List.length_append, leB_len, hdr0_len _ _ h]
theorem Put_ok' {w : World} {a : Option Addr} {n cap : Nat} {bs : List UInt8} (HR : Rd w a n cap 1 (bys bs)) {u v : Int} (ap sz m : Nat) (hu : u = ap) (hv : v = m) (hT : There n ap sz) (hm : m < 256 ^ sz) (hn : n ≤ 140737488355328) :
    Calls Tryd.prog 68 #[.slice a n cap, .int .i64 u, .int .i64 sz, .int .i64 v] w (Ret fun v w' => ∃ a' cap', v = .tuple #[.slice a' n cap', .int .i64 0] ∧ Sat w w' [slo 5 1 a' n cap' (bys (pas bs ap (leB sz m)))]) := by
  subst hu hv; exact Put_calls HR ap sz m hT hm hn
theorem hslog : pasted (bys (List.replicate 256 0)) 0 (List.take (min (ByteArray.size { data := #[83, 76, 79, 71] }) (Int.toNat 256)) (strB { data := #[83, 76, 79, 71] })) = bys (([83, 76, 79, 71] : List UInt8) ++ List.replicate 252 0) := by kernel_rfl
theorem headed_calls {w : World} (hh : Half w) (turn : Nat) (ht : turn < 4294967296) {ia da : Option Addr} {hn hc dn dc : Nat} {homes : List Nat} {data : List UInt8} (HI : Rd w ia hn hc 1 (homes.map fun h => Value.int .i64 (h : Nat))) (HD : Rd w da dn dc 1 (bys data))
    (hk : hn ≤ 121) (hb : ∀ h ∈ homes, h < 65536) (hdn : dn ≤ 4611686018427387904) :
    Calls Tryd.prog 56 #[.int .i64 turn, .slice ia hn hc, .slice da dn dc] w (Ret fun v w' => v = .agg (bys (hdr turn homes data)).toArray ∧ Ext w w') := by
  have hl : homes.length = hn := by have := HI.1; rw [List.length_map] at this; omega
  have H := Sat.nil (Ext.refl w)
  refine calls_of Tryd.func56 rfl rfl ?_
  refine WP_r rfl ?_
  refine s_allocArr (m := 256) (z := .int .u8 0) rfl (by kernel_rfl) H ?_
  clear H; intro b6 _ H
  simp only [List.cons_append, List.nil_append] at H
  refine s_end ?_
  refine WP_r rfl ?_
  refine s_makeSlice (n := 256) (c := 256) rfl (show SlT Tryd.prog 44 5 1 1 from ⟨by kernel_rfl, by kernel_rfl⟩) (show ZeroT Tryd.prog 5 (.int .u8 0) by unfold ZeroT; kernel_rfl) rfl rfl rfl (by omega) (by omega) (by omega) (by omega) H ?_
  intro b w1 H1
  clear H
  have H := H1.toSlo (i := 1) (n := 256) (cap := 256) (sz := 1) (cs := bys (List.replicate 256 0)) rfl (Nat.le_refl _) (by rw [List.size_toArray, List.length_replicate]; rfl) (by rw [List.take_of_length_le (by rw [List.length_replicate]; decide)]; unfold bys; rw [List.map_replicate]; rfl)
  clear H1
  simp only [List.cons_append, List.nil_append, List.set_cons_zero, List.set_cons_succ] at H
  refine s_val rfl (x_assign (by conv => lhs; whnf)) ?_
  refine s_end ?_
  refine WP_r rfl ?_
  refine s_val rfl (x_move (by conv => lhs; whnf)) ?_
  refine s_copyStr rfl (show SlT Tryd.prog 44 5 1 1 from ⟨by kernel_rfl, by kernel_rfl⟩) rfl rfl H (i := 1) (k := 0) rfl (SubOf.refl _ (fun _ => ⟨_, _, rfl⟩)) (by rw [bys_length, List.length_replicate]; decide) ?_
  clear H
  intro w2 H
  simp only [List.set_cons_zero, List.set_cons_succ] at H
  rw [hslog] at H
  refine s_end ?_
  refine WP_r rfl ?_
  refine s_val rfl (x_move (by conv => lhs; whnf)) ?_
  refine s_val rfl (x_move (by conv => lhs; whnf)) ?_
  refine s_call rfl (by kernel_rfl) (Put_ok' (H.rd (i := 1) rfl) 4 4 turn rfl rfl (by unfold There; omega) (by omega) (by decide)) rfl rfl ?_
  rintro _ _ ⟨a3, c3, rfl, H3⟩
  rw [pas_zeros' ([83, 76, 79, 71] : List UInt8) (leB 4 turn) 4 252 rfl (by rw [leB_len]; decide), leB_len] at H3
  replace H := (H.more H3).re 0 2 [0, 2, 1] (by kernel_rfl)
  clear H3
  refine s_val rfl (x_move (by conv => lhs; whnf)) ?_
  refine s_val rfl (x_extract rfl rfl) ?_
  refine s_val rfl (x_extract rfl rfl) ?_
  refine s_val rfl (x_assign (by conv => lhs; whnf)) ?_
  refine s_end ?_
  refine WP_r rfl ?_
  refine s_val rfl (x_move (by conv => lhs; whnf)) ?_
  refine s_val rfl (x_move (by conv => lhs; whnf)) ?_
  refine s_val rfl (x_lenS (by kernel_rfl) rfl) ?_
  refine s_call rfl (by kernel_rfl) (Put_ok' (H.rd (i := 1) rfl) 8 2 homes.length rfl (by rw [hl]) (by unfold There; omega) (by rw [hl]; show hn < 65536; omega) (by decide)) rfl rfl ?_
  rintro _ _ ⟨a4, c4, rfl, H3⟩
  rw [pas_zeros' (([83, 76, 79, 71] : List UInt8) ++ leB 4 turn) (leB 2 homes.length) 8 (252 - 4) (by rw [List.length_append, leB_len]; rfl) (by rw [leB_len]; decide), leB_len] at H3
  replace H := (H.more H3).re 0 2 [0, 2, 1] (by kernel_rfl)
  clear H3
  refine s_val rfl (x_move (by conv => lhs; whnf)) ?_
  refine s_val rfl (x_extract rfl rfl) ?_
  refine s_val rfl (x_extract rfl rfl) ?_
  refine s_val rfl (x_assign (by conv => lhs; whnf)) ?_
  refine s_end ?_
  refine WP_seq ?_
  refine WP_r rfl ?_
  refine s_val rfl (x_move (by conv => lhs; whnf)) ?_
  refine s_val rfl (x_lenS (by kernel_rfl) rfl) ?_
  refine s_val rfl (x_move (by conv => lhs; whnf)) ?_
  refine s_end ?_
  refine WP_block ?_
  refine WP_loopA (α := Option Addr × Nat × Nat) (fun p => [(0, .int .i64 turn), (2, .slice da dn dc), (6, .pointer (some ⟨b6, 0, none⟩)), (7, .slice p.1 256 p.2.1), (27, .slice ia hn hc), (28, .int .i64 hn), (29, .int .i64 p.2.2)])
    (fun p w' => p.2.2 ≤ hn ∧ Sat w w' [blk b6 (.cells (List.replicate 256 (.int .u8 0)).toArray 93 (0, 0)), slo 5 1 p.1 256 p.2.1 (bys (([83, 76, 79, 71] : List UInt8) ++ leB 4 turn ++ leB 2 homes.length ++ (homes.take p.2.2).flatMap (leB 2) ++ List.replicate (246 - 2 * p.2.2) 0))]) (fun p => hn - p.2.2) (a4, c4, 0) ⟨rfl, rfl, rfl, rfl, rfl, rfl, rfl, trivial⟩ ⟨Nat.zero_le _, by rw [List.take_zero, List.flatMap_nil, List.append_nil]; exact H⟩ ?_
  clear H
  rintro ⟨a, c, k⟩ ρ w5 ⟨hkn, H⟩
  dsimp only at hkn H ⊢
  refine WP_r rfl ?_
  refine s_val rfl (x_lss rfl rfl) ?_
  refine s_end ?_
  refine WP_seq ?_
  refine WP_cond_dec rfl (fun h1 => ?_) (fun h1 => ?_)
  · skip
    refine WP_skip ?_
    refine thenQ_n ?_
    refine WP_seq ?_
    refine WP_block ?_
    have HI2 := HI.ext H.ext
    obtain ⟨h, hh1⟩ : ∃ h, homes[k]? = some h := ⟨_, List.getElem?_eq_getElem (by omega)⟩
    have hh2 := hb h (List.mem_of_getElem? hh1)
    have hel : ∀ j, j = k → (homes.map fun h => Value.int .i64 (h : Nat))[j]? = some (.int .i64 (h : Nat)) := fun j hj => by subst hj; rw [List.getElem?_map, hh1]; rfl
    have hlen : (([83, 76, 79, 71] : List UInt8) ++ leB 4 turn ++ leB 2 homes.length ++ (homes.take k).flatMap (leB 2)).length = 10 + 2 * k := by
      simp only [List.length_append, leB_len, flat2_len, List.length_take, List.length_cons, List.length_nil]; omega
    have hsn : (homes.take (k + 1)).flatMap (leB 2) = (homes.take k).flatMap (leB 2) ++ leB 2 h := by
      rw [List.take_add_one, hh1, Option.toList_some, List.flatMap_append, List.flatMap_cons, List.flatMap_nil, List.append_nil]
    refine WP_r rfl ?_
    refine s_val rfl (x_move (by conv => lhs; whnf)) ?_
    refine s_val rfl (x_index (show SlT Tryd.prog 22 3 1 8 from ⟨by kernel_rfl, by kernel_rfl⟩) rfl rfl (by omega) (by omega) HI2) ?_
    refine s_val rfl (x_loadR (by kernel_rfl) rfl HI2 (hel _ (by omega))) ?_
    refine s_val rfl (x_assign (by conv => lhs; whnf)) ?_
    refine s_val rfl (x_assign (by conv => lhs; whnf)) ?_
    refine s_end ?_
    refine WP_region rfl ?_
    refine s_val rfl (x_move (by conv => lhs; whnf)) ?_
    refine s_val rfl (x_move (by conv => lhs; whnf)) ?_
    refine s_val rfl (x_muli rfl rfl (by omega)) ?_
    refine s_val rfl (x_addi rfl rfl (by omega)) ?_
    refine s_val rfl (x_move (by conv => lhs; whnf)) ?_
    refine s_call rfl (by kernel_rfl) (Put_ok' (H.rd (i := 1) rfl) (10 + 2 * k) 2 h (by omega) rfl (by unfold There; omega) hh2 (by decide)) rfl rfl ?_
    rintro _ _ ⟨a6, c6, rfl, H3⟩
    rw [pas_zeros' (([83, 76, 79, 71] : List UInt8) ++ leB 4 turn ++ leB 2 homes.length ++ (homes.take k).flatMap (leB 2)) (leB 2 h) (10 + 2 * k) (246 - 2 * k) hlen.symm (by rw [leB_len]; omega), leB_len, List.append_assoc _ _ (leB 2 h), ← hsn, show 246 - 2 * k - 2 = 246 - 2 * (k + 1) by omega] at H3
    replace H := (H.more H3).re 0 2 [0, 2, 1] (by kernel_rfl)
    clear H3
    refine s_val rfl (x_move (by conv => lhs; whnf)) ?_
    refine s_val rfl (x_extract rfl rfl) ?_
    refine s_val rfl (x_extract rfl rfl) ?_
    refine s_val rfl (x_assign (by conv => lhs; whnf)) ?_
    refine s_end ?_
    refine blockQ_n ?_
    refine thenQ_n ?_
    refine WP_region rfl ?_
    refine s_val rfl (x_addi rfl rfl (by omega)) ?_
    refine s_val rfl (x_move (by conv => lhs; whnf)) ?_
    refine s_end ?_
    refine loopQ_A (a6, c6, k + 1) (by show hn - (k + 1) < hn - k; omega) ⟨rfl, rfl, rfl, rfl, rfl, rfl, rfl, trivial⟩ ⟨by show k + 1 ≤ hn; omega, H⟩
  · skip
    refine WP_exit ?_
    refine thenQ_e ?_
    refine loopQ_e ?_
    refine blockQ_hit ?_
    have hke : k = hn := by omega
    subst hke
    have hfull : ([83, 76, 79, 71] : List UInt8) ++ leB 4 turn ++ leB 2 homes.length ++ (homes.take k).flatMap (leB 2) ++ List.replicate (246 - 2 * k) 0 = hdr0 turn homes ++ List.replicate 4 0 := by
      unfold hdr0
      rw [List.take_of_length_le (by omega), hl, List.append_assoc _ (List.replicate _ _), List.replicate_append_replicate, show 242 - 2 * k + 4 = 246 - 2 * k by omega]
    rw [hfull] at H
    have h252 := hdr0_len turn homes (by omega)
    refine thenQ_n ?_
    have HP : Rd w5 a 252 c 1 (bys (hdr0 turn homes)) := by
      have h1 := (H.rd (i := 1) rfl).prefix (m := 252) (by decide)
      rw [Nat.mul_one, bys_take, List.take_left' h252] at h1
      exact h1
    refine WP_r rfl ?_
    refine s_val rfl (x_move (by conv => lhs; whnf)) ?_
    refine s_val rfl (x_sliceTo (m := 252) (n := 256) (show SlT Tryd.prog 44 5 1 1 from ⟨by kernel_rfl, by kernel_rfl⟩) rfl rfl (by decide) (H.rd (i := 1) rfl).2.1) ?_
    refine s_call rfl (by kernel_rfl) (Sum_calls (hh.ext H.ext) HP (by decide)) rfl rfl ?_
    rintro _ w_ ⟨rfl, e_⟩; replace e_ := e_.symm; subst e_
    refine s_val rfl (x_move (by conv => lhs; whnf)) ?_
    refine s_call rfl (by kernel_rfl) (More_calls (hh.ext H.ext) (crcM 0 (hdr0 turn homes)) (HD.ext H.ext) hdn) rfl rfl ?_
    rintro _ w_ ⟨rfl, e_⟩; replace e_ := e_.symm; subst e_
    refine s_val rfl (x_assign (by conv => lhs; whnf)) ?_
    refine s_end ?_
    refine WP_r rfl ?_
    refine s_val rfl (x_move (by conv => lhs; whnf)) ?_
    refine s_val rfl (x_move (by conv => lhs; whnf)) ?_
    refine s_val rfl (x_convI (q := .u32) (k' := .i64) (by kernel_rfl) (by kernel_rfl) rfl) ?_
    rw [IntWalk.i64_in _ (by have := (crcM (crcM 0 (hdr0 turn homes)) data).toNat_lt; omega)]
    refine s_call rfl (by kernel_rfl) (Put_ok' (H.rd (i := 1) rfl) 252 4 (crcM (crcM 0 (hdr0 turn homes)) data).toNat rfl rfl (by unfold There; omega) (UInt32.toNat_lt _) (by decide)) rfl rfl ?_
    rintro _ _ ⟨a7, c7, rfl, H3⟩
    rw [pas_zeros' (hdr0 turn homes) (leB 4 (crcM (crcM 0 (hdr0 turn homes)) data).toNat) 252 4 h252.symm (by rw [leB_len]; decide), leB_len, Nat.sub_self, List.replicate_zero, List.append_nil] at H3
    replace H := (H.more H3).re 0 2 [0, 2, 1] (by kernel_rfl)
    clear H3
    have hfl : (bys (hdr turn homes data)).length = 256 := by rw [bys_length, hdr_len _ _ _ (by omega)]
    refine s_val rfl (x_move (by conv => lhs; whnf)) ?_
    refine s_val rfl (x_extract rfl rfl) ?_
    refine s_val rfl (x_extract rfl rfl) ?_
    refine s_val rfl (x_assign (by conv => lhs; whnf)) ?_
    refine s_end ?_
    refine WP_r rfl ?_
    refine s_val rfl (x_move (by conv => lhs; whnf)) ?_
    refine s_val rfl (x_arrPtr (m := 256) (e := 5) (by kernel_rfl) rfl (Nat.le_refl _)) ?_
    refine s_val rfl (x_loadPA (m := 256) (by kernel_rfl) rfl (H.rd (i := 1) rfl) (Nat.le_refl _) (by decide)) ?_
    rw [show (bys (hdr0 turn homes ++ leB 4 (crcM (crcM 0 (hdr0 turn homes)) data).toNat)).take 256 = bys (hdr turn homes data) from List.take_of_length_le (Nat.le_of_eq hfl)]
    refine s_storeAll (n := 256) rfl (by kernel_rfl) rfl rfl hfl (bys_oneCell _) H (i := 0) rfl (List.length_replicate ..) ?_
    clear H
    intro _ H
    replace H : Sat w _ (blk b6 (.cells (bys (hdr turn homes data)).toArray 93 (0, 0)) :: _) := H
    refine s_end ?_
    refine WP_ret ?_
    refine retQ_c1 (n := 256) rfl (by conv => lhs; whnf) (by kernel_rfl) hfl (fun j u hj => H.cellsAt (i := 0) rfl hj) ?_
    exact ⟨rfl, H.ext⟩
end Go.Sl
/- A log's steps: what a step does, how steps run; the steps that the program makes. -/
namespace Go.Sl
open Go.Proofs

/-- A disk of its own. -/
def DK (d : Nat) (x : D) : HP := DISK d x []
def SmallV (B : Nat) (v : List (List Sect)) : Prop := ∀ l ∈ v, l.length ≤ B
theorem SmallV.le {A B : Nat} {v : List (List Sect)} (h : SmallV A v) (hab : A ≤ B) : SmallV B v := fun l hl => Nat.le_trans (h l hl) hab
theorem settle_small {σ : Type} {B : Nat} (hB : 1 ≤ B) (step : σ → Nat → Nat × σ) : ∀ (v : List (List Sect)) (s : σ), SmallV B v → SmallV B (settleL step v s).1 := by
  intro v
  induction v with
  | nil => intro s _ l hl; cases hl
  | cons u v ih =>
    intro s h l hl
    unfold settleL at hl
    split at hl
    · rcases List.mem_cons.1 hl with e | e
      · subst e; exact hB
      · exact ih _ (fun l hl => h l (List.mem_cons_of_mem _ hl)) l e
    · rcases List.mem_cons.1 hl with e | e
      · subst e; exact h _ (List.mem_cons_self ..)
      · exact ih _ (fun l hl => h l (List.mem_cons_of_mem _ hl)) l e
theorem sync_small {B : Nat} (hB : 1 ≤ B) {x : D} (h : SmallV B x.vals) : SmallV B x.sync.2.vals := by
  unfold D.sync
  split
  · exact settle_small hB _ _ _ (by rw [take_vals]; exact h)
  · show SmallV B x.take.2.vals; rw [take_vals]; exact h
theorem crash_small {B : Nat} (hB : 1 ≤ B) {x : D} (h : SmallV B x.vals) (p : List Int) : SmallV B (x.crash p).vals := settle_small hB _ _ _ h
theorem write_small {B : Nat} {x : D} (h : SmallV B x.vals) (at_ : Int) (b : List UInt8) : SmallV (B + 1) (x.write at_ b).2.vals := by
  have h1 : SmallV (B + 1) x.vals := h.le (Nat.le_succ _)
  unfold D.write
  split
  · exact h1
  · split
    · exact h1
    · split
      · show SmallV (B + 1) x.take.2.vals; rw [take_vals]; exact h1
      · intro l hl
        have hl : l ∈ x.take.2.vals.set at_.toNat (x.take.2.vals.getD at_.toNat [] ++ [b]) := hl
        rw [take_vals] at hl
        rcases List.mem_or_eq_of_mem_set hl with e | e
        · exact h1 l e
        · rw [e, List.length_append, List.length_singleton, List.getD_eq_getElem?_getD]
          cases hv : x.vals[at_.toNat]? with
          | none => simp
          | some u => exact Nat.succ_le_succ (h u (List.mem_of_getElem? hv))
section
variable {w0 w : World} {L : List HP} {i d : Nat} {x : D}
theorem RO.nil (w0 : World) (F : HP) : RO w0 F [] := fun _ _ e he => by cases he
theorem Sat.hd (H : Sat w0 w L) (hi : L[i]? = some (DK d x)) : HoldD w d x := ⟨[], H.hold hi (DISK_mono _ _ _), fun e he => by cases he⟩
theorem HoldD.ok (h : HoldD w d x) : x.Ok := by
  obtain ⟨a, cap, fb, mb, mm, ff, R⟩ := DISK.read h
  exact R.ok
theorem dWrite (H : Sat w0 w L) (hi : L[i]? = some (DK d x)) (at_ : Int) {a : Option Addr} {n cap B : Nat} {bs : List UInt8} (hR : ∀ w', Sat w0 w' (L.eraseIdx i) → Rd w' a n cap 1 (bys bs)) (hc : SmallV B x.vals) (hB : B < 4611686018427387904) :
    Calls Tryd.prog 41 #[dp d, .int .i64 at_, .slice a n cap] w (Ret fun v w' => v = .int .i64 (x.write at_ bs).1 ∧ Sat w0 w' (L.set i (DK d (x.write at_ bs).2))) := by
  refine Calls.mono (Write_calls (RO.nil _ _) (H.focus hi) at_ (fun w' H' => hR w' ?_) (fun l hl => Nat.lt_of_le_of_lt (hc l hl) hB)) (Ret.mono fun v w' ⟨e, H'⟩ => ⟨e, H'.unfocus hi⟩)
  have H1 : Sat w0 w' (L.eraseIdx i ++ []) := H'.join
  rwa [List.append_nil] at H1
theorem dSync (H : Sat w0 w L) (hi : L[i]? = some (DK d x)) : Calls Tryd.prog 42 #[dp d] w (Ret fun v w' => v = .int .i64 x.sync.1 ∧ Sat w0 w' (L.set i (DK d x.sync.2))) :=
  Calls.mono (Sync_calls (RO.nil _ _) (H.focus hi)) (Ret.mono fun v w' ⟨e, H'⟩ => ⟨e, H'.unfocus hi⟩)
theorem dLimit (H : Sat w0 w L) (hi : L[i]? = some (DK d x)) (n : Int) (hn : n ≤ 9223372036854775807) : Calls Tryd.prog 20 #[dp d, .int .i64 n] w (Ret fun v w' => v = .tuple #[] ∧ Sat w0 w' (L.set i (DK d (x.limit n)))) :=
  Calls.mono (Limit_calls (RO.nil _ _) (H.focus hi) n hn) (Ret.mono fun v w' ⟨e, H'⟩ => ⟨e, H'.unfocus hi⟩)
theorem dCrash (H : Sat w0 w L) (hi : L[i]? = some (DK d x)) {a : Option Addr} {n cap : Nat} {picks : List Int} (hR : ∀ w', Sat w0 w' (L.eraseIdx i) → Rd w' a n cap 1 (picks.map intF)) :
    Calls Tryd.prog 21 #[dp d, .slice a n cap] w (Ret fun v w' => v = .int .i64 0 ∧ Sat w0 w' (L.set i (DK d (x.crash picks)))) := by
  refine Calls.mono (Crash_calls (RO.nil _ _) (fun w' H' => hR w' ?_) (H.focus hi)) (Ret.mono fun v w' ⟨e, H'⟩ => ⟨e, H'.unfocus hi⟩)
  have H1 : Sat w0 w' (L.eraseIdx i ++ []) := H'.join
  rwa [List.append_nil] at H1
end
theorem Sat.unfocusN {w0 w : World} {L N : List HP} {i : Nat} {p q : HP} (H : Sat w0 w (q :: stars (L.eraseIdx i) :: N)) (hi : L[i]? = some p) : Sat w0 w (L.set i q ++ N) := by
  have h1 : Sat w0 w (L.eraseIdx i ++ (q :: N)) := (H.perm (List.Perm.swap _ _ _)).join
  exact h1.perm (List.perm_middle.trans ((perm_set (lt_of_pick hi) q).append_right N : ((q :: L.eraseIdx i) ++ N).Perm _))
/-- What steps turn: a disk, and a log's turn. -/
abbrev WS := D × Int
/-- A step: its value, what it holds, what it does. -/
structure St where
  f : Value
  own : HP
  st : WS → Int × WS
structure Stp (d : Nat) (X : Int → HP) (C : HP) (s : St) : Prop where
  inc : ∀ y B, 1 ≤ B → SmallV B y.1.vals → SmallV (B + 1) (s.st y).2.1.vals
  call : ∃ g first cap, s.f = .func (.func g) first cap ∧ bodyB Tryd.prog g = true ∧ ∀ w0 w y F B, SmallV B y.1.vals → B < 4611686018427387904 → Sat w0 w [DK d y.1, X y.2, C, s.own, F] →
    Calls Tryd.prog g (first.toList ++ ([] ++ cap.toList)).toArray w (Ret fun v w' => v = .int .i64 (s.st y).1 ∧ Sat w0 w' [DK d (s.st y).2.1, X (s.st y).2.2, C, s.own, F])
theorem Stp.weaken {d : Nat} {X : Int → HP} {C E : HP} {s : St} (h : Stp d X C s) : Stp d X (stars [C, E]) s := by
  refine ⟨h.inc, ?_⟩
  obtain ⟨g, first, cap, e1, e2, e3⟩ := h.call
  refine ⟨g, first, cap, e1, e2, fun w0 w y F B hB hb H => ?_⟩
  have H1 : Sat w0 w ([C, E] ++ [DK d y.1, X y.2, s.own, F]) := (H.re 0 5 [2, 0, 1, 3, 4] (by kernel_rfl)).join
  have H2 : Sat w0 w ([DK d y.1, X y.2, C, s.own] ++ [F, E]) := H1.re 0 6 [2, 3, 0, 4, 5, 1] (by kernel_rfl)
  refine Calls.mono (e3 w0 w y _ B hB hb H2.tail) (Ret.mono fun v w' ⟨ev, H'⟩ => ⟨ev, ?_⟩)
  have H3 : Sat w0 w' ([DK d (s.st y).2.1, X (s.st y).2.2, C, s.own] ++ [F, E]) := H'.untail
  have H4 : Sat w0 w' ([C, E] ++ [DK d (s.st y).2.1, X (s.st y).2.2, s.own, F]) := H3.re 0 6 [2, 5, 0, 1, 3, 4] (by kernel_rfl)
  exact H4.part.re 0 5 [1, 2, 0, 3, 4] (by kernel_rfl)
theorem Stp.one {d : Nat} {X : Int → HP} {C : HP} {s : St} (h : Stp d X C s) : s.f.oneCell' = true := by
  obtain ⟨g, first, cap, e1, _⟩ := h.call
  rw [e1]; rfl
theorem Stp.ones {d : Nat} {X : Int → HP} {C : HP} {l : List St} (h : ∀ s ∈ l, Stp d X C s) : ∀ u ∈ l.map St.f, u.oneCell' = true := fun u hu => by
  obtain ⟨s, hs, rfl⟩ := List.mem_map.1 hu
  exact (h s hs).one
theorem Sat.merge {w0 w : World} {p : HP} {A B : List HP} (H : Sat w0 w [p, stars A, stars B]) : Sat w0 w [p, stars (A ++ emp :: B)] := by
  have H1 : Sat w0 w (A ++ [stars B, p]) := (H.re 0 3 [1, 2, 0] (by kernel_rfl)).join
  have H2 : Sat w0 w (B ++ (p :: A)) := (H1.perm List.perm_append_comm).join
  have H3 := (H2.perm List.perm_append_comm).addEmps 1
  have hp : ((p :: A) ++ B ++ List.replicate 1 emp).Perm ([p] ++ (A ++ emp :: B)) := by
    have h1 : (A ++ B ++ [emp]).Perm (A ++ emp :: B) := by
      rw [List.append_assoc]
      exact (List.perm_append_comm (l₁ := B) (l₂ := [emp])).append_left A
    exact h1.cons p
  exact (H3.perm hp).tail
def runSt : List (WS → Int × WS) → WS → Int × WS
  | [], y => (0, y)
  | f :: fs, y => if (f y).1 = 0 then runSt fs (f y).2 else f y
theorem own_pick {w0 w : World} {A B C S F p : HP} {M : List HP} {k : Nat} (H : Sat w0 w [A, B, C, stars M, S, F]) (hk : M[k]? = some p) : Sat w0 w [A, B, C, p, stars [stars (M.eraseIdx k), S, F]] := by
  have H1 := H.imp (i := 3) rfl (q := stars (p :: M.eraseIdx k)) (fun g hg => stars_perm (perm_pick hk) hg)
  have H2 : Sat w0 w ([A, B, C, S, F, p] ++ M.eraseIdx k) := H1.open (i := 3) rfl
  have H3 : Sat w0 w ([A, B, C, p] ++ [stars (M.eraseIdx k), S, F]) := H2.tail.re 0 7 [0, 1, 2, 5, 6, 3, 4] (by kernel_rfl)
  exact H3.tail
theorem own_put {w0 w : World} {A B C S F p : HP} {M : List HP} {k : Nat} (H : Sat w0 w [A, B, C, p, stars [stars (M.eraseIdx k), S, F]]) (hk : M[k]? = some p) : Sat w0 w [A, B, C, stars M, S, F] := by
  have H3 : Sat w0 w ([A, B, C, p] ++ [stars (M.eraseIdx k), S, F]) := Sat.untail H
  have H2 : Sat w0 w ([A, B, C, S, F, p] ++ M.eraseIdx k) := Sat.untail (H3.re 0 7 [0, 1, 2, 5, 6, 3, 4] (by kernel_rfl))
  have H1 : Sat w0 w ([A, B, C, S, F] ++ (p :: M.eraseIdx k)) := H2
  have H0 := H1.tail.imp (i := 5) rfl (q := stars M) (fun g hg => stars_perm (perm_pick hk).symm hg)
  exact H0.re 0 6 [0, 1, 2, 5, 3, 4] (by kernel_rfl)
theorem run_calls {w0 w : World} {d : Nat} {X : Int → HP} {C F : HP} {a : Option Addr} {n cap B : Nat} {sts : List St} {y : WS} (hs : ∀ s ∈ sts, Stp d X C s) (h1 : 1 ≤ B) (hB : SmallV B y.1.vals) (hb : B + sts.length < 4611686018427387904)
    (H : Sat w0 w [DK d y.1, X y.2, C, stars (sts.map St.own), slo 95 1 a n cap (sts.map St.f), F]) :
    Calls Tryd.prog 29 #[.slice a n cap] w (Ret fun v w' => v = .int .i64 (runSt (sts.map St.st) y).1 ∧ Sat w0 w' [DK d (runSt (sts.map St.st) y).2.1, X (runSt (sts.map St.st) y).2.2, C, stars (sts.map St.own), slo 95 1 a n cap (sts.map St.f), F]) := by
  have hn : sts.length = n := by have := (H.rd (i := 4) rfl).1; rw [List.length_map] at this; omega
  refine calls_of Tryd.func29 rfl rfl ?_
  refine WP_r rfl ?_
  refine s_val rfl (x_assign (by conv => lhs; whnf)) ?_
  refine s_end ?_
  refine WP_seq ?_
  refine WP_r rfl ?_
  refine s_val rfl (x_move (by conv => lhs; whnf)) ?_
  refine s_val rfl (x_lenS (by kernel_rfl) rfl) ?_
  refine s_val rfl (x_move (by conv => lhs; whnf)) ?_
  refine s_end ?_
  refine WP_block ?_
  refine WP_loopA (α := Nat × WS) (fun p => [(6, .slice a n cap), (7, .int .i64 n), (8, .int .i64 p.1)]) (fun p w' => p.1 ≤ n ∧ SmallV (B + p.1) p.2.1.vals ∧ runSt (sts.map St.st) y = runSt ((sts.drop p.1).map St.st) p.2 ∧
    Sat w0 w' [DK d p.2.1, X p.2.2, C, stars (sts.map St.own), slo 95 1 a n cap (sts.map St.f), F]) (fun p => n - p.1) (0, y) ⟨rfl, rfl, rfl, trivial⟩ ⟨Nat.zero_le _, hB, rfl, H⟩ ?_
  clear H hB
  rintro ⟨k, z⟩ ρ w1 ⟨hk, hB, hr, H⟩
  dsimp only at hk hB hr H ⊢
  refine WP_r rfl ?_
  refine s_val rfl (x_lss rfl rfl) ?_
  refine s_end ?_
  refine WP_seq ?_
  refine WP_cond_dec rfl (fun h1 => ?_) (fun h1 => ?_)
  · skip
    refine WP_skip ?_
    refine thenQ_n ?_
    refine WP_seq ?_
    refine WP_block ?_
    obtain ⟨s, hsk⟩ : ∃ s, sts[k]? = some s := ⟨_, List.getElem?_eq_getElem (by omega)⟩
    have hS := hs s (List.mem_of_getElem? hsk)
    have hel : ∀ j, j = k → (sts.map St.f)[j]? = some s.f := fun j hj => by subst hj; rw [List.getElem?_map, hsk]; rfl
    have how : (sts.map St.own)[k]? = some s.own := by rw [List.getElem?_map, hsk]; rfl
    have hdr : (sts.drop k).map St.st = s.st :: (sts.drop (k + 1)).map St.st := by
      rw [List.drop_eq_getElem_cons (by omega : k < sts.length), List.map_cons]
      rw [List.getElem?_eq_getElem (by omega)] at hsk
      injection hsk with hsk
      rw [hsk]
    have HR := H.rd (i := 4) rfl
    obtain ⟨g, first, cp, hf, hbd, hcall⟩ := hS.call
    have hinc := hS.inc z (B + k) (by omega) hB
    rw [hdr, runSt] at hr
    refine WP_r rfl ?_
    refine s_val rfl (x_index (show SlT Tryd.prog 66 95 1 8 from ⟨by kernel_rfl, by kernel_rfl⟩) rfl rfl (by omega) (by omega) HR) ?_
    refine s_val rfl (x_loadR (by kernel_rfl) rfl HR (hel _ (by omega))) ?_
    refine s_val rfl (x_assign (by conv => lhs; whnf)) ?_
    refine s_end ?_
    refine WP_r rfl ?_
    refine s_val rfl (x_move (by conv => lhs; whnf)) ?_
    refine s_call rfl hbd (hcall w0 w1 z _ (B + k) hB (by omega) (own_pick H how)) hf rfl ?_
    clear H HR
    rintro _ w2 ⟨rfl, H⟩
    replace H := own_put H how
    refine s_val rfl (x_assign (by conv => lhs; whnf)) ?_
    refine s_end ?_
    refine WP_r rfl ?_
    refine s_val rfl (x_move (by conv => lhs; whnf)) ?_
    refine s_val rfl (x_neq rfl rfl) ?_
    refine s_end ?_
    refine WP_cond_dec rfl (fun h2 => ?_) (fun h2 => ?_)
    · skip
      refine WP_r rfl ?_
      refine s_val rfl (x_move (by conv => lhs; whnf)) ?_
      refine s_val rfl (x_assign (by conv => lhs; whnf)) ?_
      refine s_end ?_
      refine WP_ret ?_
      refine blockQ_r ?_
      refine thenQ_r ?_
      refine loopQ_r ?_
      refine blockQ_r ?_
      refine thenQ_r ?_
      refine retQ_1 rfl (by conv => lhs; whnf) ?_
      rw [hr, if_neg (by assumption)]
      exact ⟨rfl, H⟩
    · skip
      refine WP_skip ?_
      refine blockQ_n ?_
      refine thenQ_n ?_
      refine WP_region rfl ?_
      refine s_val rfl (x_addi rfl rfl (by omega)) ?_
      refine s_val rfl (x_move (by conv => lhs; whnf)) ?_
      refine s_end ?_
      rw [if_pos (Classical.byContradiction (by assumption))] at hr
      refine loopQ_A (k + 1, (s.st z).2) (by show n - (k + 1) < n - k; omega) ⟨rfl, rfl, rfl, trivial⟩ ⟨by show k + 1 ≤ n; omega, hinc, hr, H⟩
  · skip
    refine WP_exit ?_
    refine thenQ_e ?_
    refine loopQ_e ?_
    refine blockQ_hit ?_
    have hke : k = n := by omega
    rw [hke, List.drop_of_length_le (by omega), List.map_nil, runSt] at hr
    refine thenQ_n ?_
    refine WP_r rfl ?_
    refine s_val rfl (x_assign (by conv => lhs; whnf)) ?_
    refine s_end ?_
    refine WP_ret ?_
    refine retQ_1 rfl (by conv => lhs; whnf) ?_
    exact ⟨by rw [hr], by rw [hr]; exact H⟩
end Go.Sl
/- A log's steps: those that the program makes: write, empty, home. -/
namespace Go.Sl
open Go.Proofs

abbrev pp (b : Nat) : Value := .pointer (some ⟨b, 0, none⟩)
theorem Sat.all {w0 w : World} {L : List HP} (H : Sat w0 w L) : Sat w0 w [stars L] := by
  have h : Sat w0 w (L ++ []) := by rw [List.append_nil]; exact H
  exact h.part
theorem Sat.unall {w0 w : World} {L N : List HP} (H : Sat w0 w (stars L :: N)) : Sat w0 w (L ++ N) := H.join
theorem rd_blk {w0 w : World} {L : List HP} {i b n T : Nat} {cs : List Value} (H : Sat w0 w L) (hi : L[i]? = some (blk b (.cells cs.toArray T (0, 0)))) (hl : cs.length = n) : Rd w (some ⟨b, 0, none⟩) n n 1 cs :=
  ⟨by omega, Nat.le_refl _, fun _ => ⟨b, 0, rfl, fun j u hj => by rw [Nat.zero_add]; exact H.cellsAt hi hj⟩⟩
theorem place_calls {w : World} {d : Nat} {x : D} (h : HoldD w d x) (at_ cap : Int) : Calls Tryd.prog 32 #[dp d, .int .i64 at_, .int .i64 cap] w (Ret fun v w' => v = .bool (decide (1 ≤ cap ∧ cap ≤ 100 ∧ 0 ≤ at_ ∧ at_ < x.vals.length - cap)) ∧ core w' = core w) := by
  have hbig := h.ok.big
  refine calls_of Tryd.func32 rfl rfl ?_
  refine WP_r rfl ?_
  refine s_val rfl (x_assign (by conv => lhs; whnf)) ?_
  refine s_end ?_
  refine WP_r rfl ?_
  refine s_val rfl (x_move (by conv => lhs; whnf)) ?_
  refine s_val rfl (x_geq rfl rfl) ?_
  refine s_dec rfl (x_move rfl) (fun h1 => ?_) (fun h1 => ?_)
  · skip
    refine s_val rfl (x_move (by conv => lhs; whnf)) ?_
    refine s_val rfl (x_leq rfl rfl) ?_
    refine s_val rfl (x_pick_true rfl (by conv => lhs; whnf)) ?_
    refine s_dec rfl (x_move rfl) (fun h2 => ?_) (fun h2 => ?_)
    · skip
      refine s_val rfl (x_move (by conv => lhs; whnf)) ?_
      refine s_val rfl (x_geq rfl rfl) ?_
      refine s_val rfl (x_pick_true rfl (by conv => lhs; whnf)) ?_
      refine s_dec rfl (x_move rfl) (fun h3 => ?_) (fun h3 => ?_)
      · skip
        refine s_val rfl (x_move (by conv => lhs; whnf)) ?_
        refine s_val rfl (x_move (by conv => lhs; whnf)) ?_
        refine s_call rfl (by kernel_rfl) (Sectors_calls h) rfl rfl ?_
        rintro _ _ ⟨rfl, e1⟩
        refine s_val rfl (x_move (by conv => lhs; whnf)) ?_
        refine s_val rfl (x_subi rfl rfl (by omega)) ?_
        refine s_val rfl (x_lss rfl rfl) ?_
        refine s_val rfl (x_pick_true rfl (by conv => lhs; whnf)) ?_
        refine s_val rfl (x_assign (by conv => lhs; whnf)) ?_
        refine s_end ?_
        refine WP_ret ?_
        refine retQ_1 rfl (by conv => lhs; whnf) ?_
        exact ⟨by first | rw [decide_eq_false (p := 1 ≤ cap ∧ cap ≤ 100 ∧ 0 ≤ at_ ∧ at_ < x.vals.length - cap) (by omega)] | (congr 1; exact decide_eq_decide.2 (by omega)), by first | exact rfl | exact e1⟩
      · skip
        refine s_out rfl ?_
        refine s_out rfl ?_
        refine s_out rfl ?_
        refine s_out rfl ?_
        refine s_out rfl ?_
        refine s_out rfl ?_
        refine s_val rfl (x_pick_false rfl (by conv => lhs; whnf)) ?_
        refine s_val rfl (x_assign (by conv => lhs; whnf)) ?_
        refine s_end ?_
        refine WP_ret ?_
        refine retQ_1 rfl (by conv => lhs; whnf) ?_
        exact ⟨by first | rw [decide_eq_false (p := 1 ≤ cap ∧ cap ≤ 100 ∧ 0 ≤ at_ ∧ at_ < x.vals.length - cap) (by omega)] | (congr 1; exact decide_eq_decide.2 (by omega)), by first | exact rfl | exact e1⟩
    · skip
      refine s_out rfl ?_
      refine s_out rfl ?_
      refine s_val rfl (x_pick_false rfl (by conv => lhs; whnf)) ?_
      refine s_val rfl (x_move (by conv => lhs; whnf)) ?_
      refine s_out rfl ?_
      refine s_out rfl ?_
      refine s_out rfl ?_
      refine s_out rfl ?_
      refine s_out rfl ?_
      refine s_out rfl ?_
      refine s_val rfl (x_pick_false rfl (by conv => lhs; whnf)) ?_
      refine s_val rfl (x_assign (by conv => lhs; whnf)) ?_
      refine s_end ?_
      refine WP_ret ?_
      refine retQ_1 rfl (by conv => lhs; whnf) ?_
      exact ⟨by first | rw [decide_eq_false (p := 1 ≤ cap ∧ cap ≤ 100 ∧ 0 ≤ at_ ∧ at_ < x.vals.length - cap) (by omega)] | (congr 1; exact decide_eq_decide.2 (by omega)), by first | exact rfl | exact e1⟩
  · skip
    refine s_out rfl ?_
    refine s_out rfl ?_
    refine s_val rfl (x_pick_false rfl (by conv => lhs; whnf)) ?_
    refine s_val rfl (x_move (by conv => lhs; whnf)) ?_
    refine s_out rfl ?_
    refine s_out rfl ?_
    refine s_val rfl (x_pick_false rfl (by conv => lhs; whnf)) ?_
    refine s_val rfl (x_move (by conv => lhs; whnf)) ?_
    refine s_out rfl ?_
    refine s_out rfl ?_
    refine s_out rfl ?_
    refine s_out rfl ?_
    refine s_out rfl ?_
    refine s_out rfl ?_
    refine s_val rfl (x_pick_false rfl (by conv => lhs; whnf)) ?_
    refine s_val rfl (x_assign (by conv => lhs; whnf)) ?_
    refine s_end ?_
    refine WP_ret ?_
    refine retQ_1 rfl (by conv => lhs; whnf) ?_
    exact ⟨by first | rw [decide_eq_false (p := 1 ≤ cap ∧ cap ≤ 100 ∧ 0 ≤ at_ ∧ at_ < x.vals.length - cap) (by omega)] | (congr 1; exact decide_eq_decide.2 (by omega)), by first | exact rfl | exact e1⟩
def wrS (at_ : Int) (bs : List UInt8) : WS → Int × WS := fun y => ((y.1.write at_ bs).1, (y.1.write at_ bs).2, y.2)
def syS : WS → Int × WS := fun y => (y.1.sync.1, y.1.sync.2, y.2)
def tuS (t : Int) : WS → Int × WS := fun y => (0, y.1, t)
def wrV (p q r : Nat) : Value := .func (.func 71) #[] #[pp p, pp q, pp r]
def wrO (d : Nat) (at_ : Int) (a : Option Addr) (n cap p q r : Nat) : List HP := [blk p (.cells #[dp d] 25 (0, 0)), blk q (.cells #[.int .i64 at_] 3 (0, 0)), blk r (.cells #[.slice a n cap] 44 (0, 0))]
theorem write_calls {w : World} (d : Nat) (at_ : Int) (a : Option Addr) (n cap : Nat) :
    Calls Tryd.prog 57 #[dp d, .int .i64 at_, .slice a n cap] w (Ret fun v w' => ∃ p q r, v = wrV p q r ∧ Sat w w' (wrO d at_ a n cap p q r)) := by
  have H := Sat.nil (Ext.refl w)
  refine calls_of Tryd.func57 rfl rfl ?_
  refine WP_r rfl ?_
  refine s_box1 rfl (by conv => lhs; whnf) rfl H ?_
  clear H; intro b3 _ H
  simp only [List.cons_append, List.nil_append] at H
  refine s_box1 rfl (by conv => lhs; whnf) rfl H ?_
  clear H; intro b4 _ H
  simp only [List.cons_append, List.nil_append] at H
  refine s_box1 rfl (by conv => lhs; whnf) rfl H ?_
  clear H; intro b5 _ H
  simp only [List.cons_append, List.nil_append] at H
  refine s_val rfl (x_assign (by conv => lhs; whnf)) ?_
  refine s_end ?_
  refine WP_r rfl ?_
  refine s_val rfl (x_makeFuncE (l1 := []) (l2 := [_, _, _]) trivial ⟨(by conv => lhs; whnf), (by conv => lhs; whnf), (by conv => lhs; whnf), trivial⟩) ?_
  refine s_val rfl (x_assign (by conv => lhs; whnf)) ?_
  refine s_end ?_
  refine WP_ret ?_
  refine retQ_1 rfl (by conv => lhs; whnf) ?_
  exact ⟨b3, b4, b5, rfl, H⟩
theorem write1_calls {w0 w : World} {d : Nat} {X : HP} {x : D} {C E F : HP} {at_ : Int} {a : Option Addr} {n cap p q r B : Nat} {bs : List UInt8} (hC : ∀ w', Sat w0 w' [C, E] → Rd w' a n cap 1 (bys bs)) (hB : SmallV B x.vals) (hb : B < 4611686018427387904)
    (H : Sat w0 w ([DK d x, X, C, E, F] ++ wrO d at_ a n cap p q r)) :
    Calls Tryd.prog 71 #[pp p, pp q, pp r] w (Ret fun v w' => v = .int .i64 (x.write at_ bs).1 ∧ Sat w0 w' ([DK d (x.write at_ bs).2, X, C, E, F] ++ wrO d at_ a n cap p q r)) := by
  simp only [wrO, List.cons_append, List.nil_append] at H
  refine calls_of Tryd.func71 rfl rfl ?_
  refine WP_r rfl ?_
  refine s_val rfl (x_assign (by conv => lhs; whnf)) ?_
  refine s_end ?_
  refine WP_r rfl ?_
  refine s_val rfl (x_load (by kernel_rfl) rfl (by first | assumption | exact H.cell (i := 0) rfl rfl | exact H.cell (i := 1) rfl rfl | exact H.cell (i := 2) rfl rfl | exact H.cell (i := 3) rfl rfl | exact H.cell (i := 4) rfl rfl | exact H.cell (i := 5) rfl rfl | exact H.cell (i := 6) rfl rfl | exact H.cell (i := 7) rfl rfl | exact H.cell (i := 8) rfl rfl | exact H.cell (i := 9) rfl rfl | exact H.cell (i := 10) rfl rfl | exact H.cell (i := 11) rfl rfl)) ?_
  refine s_val rfl (x_load (by kernel_rfl) rfl (by first | assumption | exact H.cell (i := 0) rfl rfl | exact H.cell (i := 1) rfl rfl | exact H.cell (i := 2) rfl rfl | exact H.cell (i := 3) rfl rfl | exact H.cell (i := 4) rfl rfl | exact H.cell (i := 5) rfl rfl | exact H.cell (i := 6) rfl rfl | exact H.cell (i := 7) rfl rfl | exact H.cell (i := 8) rfl rfl | exact H.cell (i := 9) rfl rfl | exact H.cell (i := 10) rfl rfl | exact H.cell (i := 11) rfl rfl)) ?_
  refine s_val rfl (x_load (by kernel_rfl) rfl (by first | assumption | exact H.cell (i := 0) rfl rfl | exact H.cell (i := 1) rfl rfl | exact H.cell (i := 2) rfl rfl | exact H.cell (i := 3) rfl rfl | exact H.cell (i := 4) rfl rfl | exact H.cell (i := 5) rfl rfl | exact H.cell (i := 6) rfl rfl | exact H.cell (i := 7) rfl rfl | exact H.cell (i := 8) rfl rfl | exact H.cell (i := 9) rfl rfl | exact H.cell (i := 10) rfl rfl | exact H.cell (i := 11) rfl rfl)) ?_
  refine s_call rfl (by kernel_rfl) (dWrite H (i := 0) rfl at_ (fun w' H' => hC w' (H'.re 0 2 [1, 2, 0, 3, 4, 5, 6] (by kernel_rfl))) hB hb) rfl rfl ?_
  clear H; rintro _ _ ⟨rfl, H⟩
  try simp only [List.set_cons_zero, List.set_cons_succ] at H
  refine s_val rfl (x_assign (by conv => lhs; whnf)) ?_
  refine s_end ?_
  refine WP_ret ?_
  refine retQ_1 rfl (by conv => lhs; whnf) ?_
  exact ⟨rfl, H⟩
/-- A step that writes; E holds what it writes, or C does. -/
theorem wr_stp {d : Nat} {X : Int → HP} {C E : HP} {at_ : Int} {a : Option Addr} {n cap p q r : Nat} {bs : List UInt8} (hC : ∀ w0 w', Sat w0 w' [C, E] → Rd w' a n cap 1 (bys bs)) :
    Stp d X C ⟨wrV p q r, stars (E :: wrO d at_ a n cap p q r), wrS at_ bs⟩ := by
  refine ⟨fun y B _ hB => write_small hB _ _, _, _, _, rfl, by kernel_rfl, fun w0 w y F B hB hb H => ?_⟩
  have H1 : Sat w0 w ([DK d y.1, X y.2, C, F] ++ (E :: wrO d at_ a n cap p q r)) := (H.re 0 5 [0, 1, 2, 4, 3] (by kernel_rfl)).untail
  have H2 : Sat w0 w ([DK d y.1, X y.2, C, E, F] ++ wrO d at_ a n cap p q r) := H1.re 0 8 [0, 1, 2, 4, 3, 5, 6, 7] (by kernel_rfl)
  refine Calls.mono (write1_calls (hC w0) hB hb H2) (Ret.mono fun v w' ⟨ev, H'⟩ => ⟨ev, ?_⟩)
  have H3 : Sat w0 w' ([DK d (y.1.write at_ bs).2, X y.2, C, F] ++ (E :: wrO d at_ a n cap p q r)) := H'.re 0 8 [0, 1, 2, 4, 3, 5, 6, 7] (by kernel_rfl)
  exact H3.tail.re 0 5 [0, 1, 2, 4, 3] (by kernel_rfl)
def syV (d : Nat) : Value := .func (.func 42) #[dp d] #[]
theorem sy_stp {d : Nat} {X : Int → HP} {C : HP} : Stp d X C ⟨syV d, emp, syS⟩ := by
  refine ⟨fun y B h1 hB => (sync_small h1 hB).le (Nat.le_succ _), _, _, _, rfl, by kernel_rfl, fun w0 w y F B hB hb H => ?_⟩
  exact Calls.mono (dSync H (i := 0) rfl) (Ret.mono fun v w' ⟨ev, H'⟩ => ⟨ev, H'⟩)
/-- The steps that make a log empty. -/
def emptyS (at_ : Int) (turn : Nat) : List (WS → Int × WS) := [wrS at_ (hdr turn [] []), syS]
theorem empty_calls {w0 w : World} {L : List HP} {d : Nat} (H : Sat w0 w L) (hh : Half w0) (at_ : Int) (turn : Nat) (ht : turn < 4294967296) (X : Int → HP) (C : HP) :
    Calls Tryd.prog 33 #[dp d, .int .i64 at_, .int .i64 turn] w (Ret fun v w' => ∃ (a : Option Addr) (n cap : Nat) (sts : List St), v = .slice a n cap ∧ n = 2 ∧ sts.map St.st = emptyS at_ turn ∧ (∀ s ∈ sts, Stp d X C s) ∧ Sat w0 w' (L ++ [stars (sts.map St.own), slo 95 1 a n cap (sts.map St.f)])) := by
  have hN := Rd.none w none 0 1
  replace H : Sat w0 w [stars L] := (H : Sat w0 w L).all
  refine calls_of Tryd.func33 rfl rfl ?_
  refine WP_r rfl ?_
  refine s_val rfl (x_assign (by conv => lhs; whnf)) ?_
  refine s_end ?_
  refine WP_r rfl ?_
  refine s_val rfl (x_move (by conv => lhs; whnf)) ?_
  refine s_call rfl (by kernel_rfl) (headed_calls (hh.ext H.ext) turn ht (ia := none) (da := none) (homes := []) (data := []) hN hN (by decide) (fun h hm => by cases hm) (by decide)) rfl rfl ?_
  rintro _ w2 ⟨rfl, e2⟩
  replace H := H.more (Sat.nil e2)
  simp only [List.append_nil] at H
  have hfl : (bys (hdr turn [] [])).length = 256 := by rw [bys_length, hdr_len _ _ _ (by decide)]
  refine s_allocArr (m := 256) (z := .int .u8 0) rfl (by kernel_rfl) H ?_
  clear H; intro b7 _ H
  simp only [List.cons_append, List.nil_append] at H
  refine s_storeAll (n := 256) rfl (by kernel_rfl) rfl rfl hfl (bys_oneCell _) H (i := 1) rfl (List.length_replicate ..) ?_
  clear H
  intro _ H
  replace H : Sat w0 _ [stars L, blk b7 (.cells (bys (hdr turn [] [])).toArray 93 (0, 0))] := H
  refine s_end ?_
  refine WP_r rfl ?_
  refine s_val rfl (x_move (by conv => lhs; whnf)) ?_
  refine s_val rfl (x_move (by conv => lhs; whnf)) ?_
  refine s_val rfl (x_sliceArr (m := 256) (e := 5) (by kernel_rfl) (by kernel_rfl) rfl) ?_
  refine s_call rfl (by kernel_rfl) (write_calls d at_ (some ⟨b7, 0, none⟩) 256 256) rfl rfl ?_
  rintro _ w4 ⟨p, q, r, rfl, H4⟩
  replace H := H.more H4
  clear H4
  simp only [List.cons_append, List.nil_append, wrO] at H
  refine s_val rfl (x_move (by conv => lhs; whnf)) ?_
  refine s_val rfl (x_makeFuncE (l1 := [_]) (l2 := []) ⟨(by conv => lhs; whnf), trivial⟩ trivial) ?_
  refine s_buildSliceE (vs := [_, _]) rfl (show SlT Tryd.prog 66 95 1 8 from ⟨by kernel_rfl, by kernel_rfl⟩) (show ∃ z, ZeroT Tryd.prog 95 z ∧ z.cells.size = 1 from ⟨_, (show ZeroT Tryd.prog 95 (.nilFunc) by unfold ZeroT; kernel_rfl), rfl⟩) rfl ⟨(by conv => lhs; whnf), (by conv => lhs; whnf), trivial⟩ rfl (by simp [Value.cells]) (by decide) H ?_
  clear H; intro b16 _ H
  simp only [List.cons_append, List.nil_append, List.flatMap_cons, List.flatMap_nil, Value.cells, List.append_nil] at H
  refine s_val rfl (x_assign (by conv => lhs; whnf)) ?_
  refine s_end ?_
  refine WP_ret ?_
  refine retQ_1 rfl (by conv => lhs; whnf) ?_
  refine ⟨_, 2, 2, [⟨wrV p q r, stars (blk b7 (.cells (bys (hdr turn [] [])).toArray 93 (0, 0)) :: wrO d at_ (some ⟨b7, 0, none⟩) 256 256 p q r), wrS at_ (hdr turn [] [])⟩, ⟨syV d, emp, syS⟩], rfl, rfl, rfl, ?_, ?_⟩
  · intro s hs
    rcases List.mem_cons.1 hs with rfl | hs
    · exact wr_stp (E := blk b7 (.cells (bys (hdr turn [] [])).toArray 93 (0, 0))) fun w0 w' H' => rd_blk H' (i := 1) rfl hfl
    · rcases List.mem_cons.1 hs with rfl | hs
      · exact sy_stp
      · cases hs
  · have H1 : Sat w0 _ ([stars L, slo 95 1 _ 2 2 _] ++ [_, _, _, _]) := H.re 0 6 [0, 5, 1, 2, 3, 4] (by kernel_rfl)
    have H2 : Sat w0 _ ([stars L, slo 95 1 _ 2 2 _] ++ [_, emp]) := H1.tail.re 1 4 [0, 1, 2, 3] (by kernel_rfl)
    exact (H2.tail.re 0 3 [0, 2, 1] (by kernel_rfl)).unall
end Go.Sl
/- A log's steps: what is logged is brought home. -/
namespace Go.Sl
open Go.Proofs

def chk (data : List UInt8) (i : Nat) : List UInt8 := (data.drop (i * 256)).take 256
def homeS0 (homes : List Nat) (data : List UInt8) : List (WS → Int × WS) := (List.range homes.length).map fun i => wrS (homes.getD i 0 : Nat) (chk data i)
def homeS (at_ : Int) (turn : Nat) (homes : List Nat) (data : List UInt8) : List (WS → Int × WS) := homeS0 homes data ++ (syS :: emptyS at_ turn)
def natV (n : Nat) : Value := .int .i64 n
def lcells (turn : Nat) (ia : Option Addr) (hn hc : Nat) (da : Option Addr) (dn dc : Nat) : List Value := [.int .i64 turn, .slice ia hn hc, .slice da dn dc]
theorem lcells_one (turn : Nat) (ia : Option Addr) (hn hc : Nat) (da : Option Addr) (dn dc : Nat) : ∀ u ∈ lcells turn ia hn hc da dn dc, u.oneCell' = true := fun u hu => by
  simp only [lcells, List.mem_cons, List.not_mem_nil, or_false] at hu
  rcases hu with rfl | rfl | rfl <;> rfl
theorem home_calls {w0 w : World} {L : List HP} {d : Nat} (H0 : Sat w0 w L) (hh : Half w0) (at_ : Int) (turn : Nat) (ht : turn < 4294967296) {ia da : Option Addr} {hn hc dn dc : Nat} {homes : List Nat} {data : List UInt8}
    (HI : Rd w ia hn hc 1 (homes.map natV)) (hk : hn ≤ 121) (hdn : dn = hn * 256) (hdc : dn ≤ dc) (X : Int → HP) (C : HP) (hC : ∀ w0 w', Sat w0 w' [C] → Rd w' da dn dc 1 (bys data)) :
    Calls Tryd.prog 30 #[dp d, .int .i64 at_, .agg (lcells turn ia hn hc da dn dc).toArray] w (Ret fun v w' => ∃ (a : Option Addr) (n cap : Nat) (sts : List St), v = .slice a n cap ∧ n = hn + 3 ∧ sts.map St.st = homeS at_ turn homes data ∧ (∀ s ∈ sts, Stp d X C s) ∧
      Sat w0 w' (L ++ [stars (sts.map St.own), slo 95 1 a n cap (sts.map St.f)])) := by
  have hl : homes.length = hn := by have := HI.1; rw [List.length_map] at this; omega
  have H := Sat.nil (Ext.refl w)
  refine calls_of Tryd.func30 rfl rfl ?_
  refine WP_r rfl ?_
  refine s_boxA rfl (by conv => lhs; whnf) H ?_
  clear H; intro b5 _ H
  simp only [List.cons_append, List.nil_append] at H
  refine s_val rfl (x_assign (by conv => lhs; whnf)) ?_
  refine s_end ?_
  refine WP_r rfl ?_
  refine s_val rfl (x_assign (by conv => lhs; whnf)) ?_
  refine s_end ?_
  refine WP_seq ?_
  refine WP_r rfl ?_
  refine s_val rfl (x_field (off := 1) (by kernel_rfl) rfl) ?_
  refine s_val rfl (x_load (by kernel_rfl) rfl (by first | assumption | exact H.cell (i := 0) rfl rfl)) ?_
  refine s_val rfl (x_lenS (by kernel_rfl) rfl) ?_
  refine s_val rfl (x_move (by conv => lhs; whnf)) ?_
  refine s_end ?_
  refine WP_block ?_
  replace H := Sat.tail (A := [_]) (B := []) H
  replace H := Sat.addNil 95 1 H
  simp only [List.cons_append, List.nil_append] at H
  refine WP_loopA (α := Option Addr × Nat × List St) (fun p => [(0, dp d), (1, .int .i64 at_), (5, pp b5), (7, .slice p.1 p.2.2.length p.2.1), (11, .slice ia hn hc), (12, .int .i64 hn), (13, .int .i64 p.2.2.length)]) (fun p w' => p.2.2.length ≤ hn ∧ p.2.2.map St.st = (homeS0 homes data).take p.2.2.length ∧ (∀ s ∈ p.2.2, Stp d X C s) ∧
    Sat w w' [blk b5 (.cells (lcells turn ia hn hc da dn dc).toArray 62 (0, 0)), stars (p.2.2.map St.own), slo 95 1 p.1 p.2.2.length p.2.1 (p.2.2.map St.f)]) (fun p => hn - p.2.2.length) (none, 0, []) ⟨rfl, rfl, rfl, rfl, rfl, rfl, rfl, trivial⟩ ⟨Nat.zero_le _, rfl, (fun s hs => by cases hs), H⟩ ?_
  clear H
  rintro ⟨a, c, sts⟩ ρ w1 ⟨hk2, hst, hstp, H⟩
  dsimp only at hk2 hst hstp H ⊢
  refine WP_r rfl ?_
  refine s_val rfl (x_lss rfl rfl) ?_
  refine s_end ?_
  refine WP_seq ?_
  refine WP_cond_dec rfl (fun h1 => ?_) (fun h1 => ?_)
  · skip
    refine WP_skip ?_
    refine thenQ_n ?_
    refine WP_seq ?_
    refine WP_block ?_
    have HI2 := HI.ext H.ext
    obtain ⟨h, hh1⟩ : ∃ h, homes[sts.length]? = some h := ⟨_, List.getElem?_eq_getElem (by omega)⟩
    have hel : ∀ j, j = sts.length → (homes.map natV)[j]? = some (.int .i64 (h : Nat)) := fun j hj => by subst hj; rw [List.getElem?_map, hh1]; rfl
    have hs0 : (homeS0 homes data)[sts.length]? = some (wrS (h : Nat) (chk data sts.length)) := by
      unfold homeS0
      rw [List.getElem?_map, List.getElem?_range (by omega), Option.map_some, List.getD_eq_getElem?_getD, hh1]; rfl
    refine WP_r rfl ?_
    refine s_val rfl (x_move (by conv => lhs; whnf)) ?_
    refine s_val rfl (x_index (show SlT Tryd.prog 22 3 1 8 from ⟨by kernel_rfl, by kernel_rfl⟩) rfl rfl (by omega) (by omega) HI2) ?_
    refine s_val rfl (x_loadR (by kernel_rfl) rfl HI2 (hel _ (by omega))) ?_
    refine s_val rfl (x_assign (by conv => lhs; whnf)) ?_
    refine s_val rfl (x_assign (by conv => lhs; whnf)) ?_
    refine s_end ?_
    refine WP_region rfl ?_
    refine s_val rfl (x_move (by conv => lhs; whnf)) ?_
    refine s_val rfl (x_move (by conv => lhs; whnf)) ?_
    refine s_val rfl (x_move (by conv => lhs; whnf)) ?_
    refine s_val rfl (x_field (off := 2) (by kernel_rfl) rfl) ?_
    refine s_val rfl (x_load (by kernel_rfl) rfl (by first | assumption | exact H.cell (i := 0) rfl rfl)) ?_
    refine s_val rfl (x_move (by conv => lhs; whnf)) ?_
    refine s_val rfl (x_muli rfl rfl (by omega)) ?_
    refine s_val rfl (x_move (by conv => lhs; whnf)) ?_
    refine s_val rfl (x_addi rfl rfl (by omega)) ?_
    refine s_val rfl (x_muli rfl rfl (by omega)) ?_
    refine s_val rfl (x_slice (n := dn) (cap := dc) (i := (sts.length : Int) * 256) (j := ((sts.length : Int) + 1) * 256) (show SlT Tryd.prog 44 5 1 1 from ⟨by kernel_rfl, by kernel_rfl⟩) rfl rfl rfl (by omega) (by omega) (by omega) hdc) ?_
    refine s_call rfl (by kernel_rfl) (write_calls d (h : Nat) (cutAt da dc ((sts.length : Int) * 256).toNat 1) ((((sts.length : Int) + 1) * 256).toNat - ((sts.length : Int) * 256).toNat) (dc - ((sts.length : Int) * 256).toNat)) rfl rfl ?_
    rintro _ w4 ⟨p, q, r, rfl, H4⟩
    replace H := H.more H4
    clear H4
    simp only [List.cons_append, List.nil_append, wrO] at H
    refine s_buildSliceE (vs := [_]) rfl (show SlT Tryd.prog 66 95 1 8 from ⟨by kernel_rfl, by kernel_rfl⟩) (show ∃ z, ZeroT Tryd.prog 95 z ∧ z.cells.size = 1 from ⟨_, (show ZeroT Tryd.prog 95 (.nilFunc) by unfold ZeroT; kernel_rfl), rfl⟩) rfl ⟨(by conv => lhs; whnf), trivial⟩ rfl (by simp [Value.cells]) (by decide) H ?_
    clear H; intro b30 _ H
    simp only [List.cons_append, List.nil_append, List.flatMap_cons, List.flatMap_nil, Value.cells, List.append_nil] at H
    refine s_append rfl (show SlT Tryd.prog 66 95 1 8 from ⟨by kernel_rfl, by kernel_rfl⟩) (show ∃ z, ZeroT Tryd.prog 95 z ∧ z.cells.size = 1 from ⟨_, (show ZeroT Tryd.prog 95 (.nilFunc) by unfold ZeroT; kernel_rfl), rfl⟩) ⟨_, (show SlT Tryd.prog 66 95 1 8 from ⟨by kernel_rfl, by kernel_rfl⟩).und⟩ rfl rfl H (i := 2) rfl (H.rd (i := 6) rfl) (by first | exact bys_oneCell _ | (intro u hu; simp at hu; rcases hu with rfl | rfl | rfl | rfl <;> rfl) | (intro u hu; simp at hu; subst hu; rfl) | (intro u hu; obtain ⟨_, _, rfl⟩ := List.mem_map.1 hu; rfl)) (by omega) (by omega) ?_
    clear H; intro a31 c31 _ H
    simp only [List.set_cons_zero, List.set_cons_succ] at H
    replace H := H.re 0 6 [0, 1, 2, 3, 4, 5, 6] (by kernel_rfl)
    refine s_val rfl (x_assign (by conv => lhs; whnf)) ?_
    refine s_end ?_
    refine blockQ_n ?_
    refine thenQ_n ?_
    refine WP_region rfl ?_
    refine s_val rfl (x_addi rfl rfl (by omega)) ?_
    refine s_val rfl (x_move (by conv => lhs; whnf)) ?_
    refine s_end ?_
    have H2 : Sat w _ ([blk b5 (.cells (lcells turn ia hn hc da dn dc).toArray 62 (0, 0)), stars (sts.map St.own), slo 95 1 a31 (sts.length + 1) c31 (sts.map St.f ++ [wrV p q r]), emp] ++ wrO d (h : Nat) (cutAt da dc ((sts.length : Int) * 256).toNat 1) ((((sts.length : Int) + 1) * 256).toNat - ((sts.length : Int) * 256).toNat) (dc - ((sts.length : Int) * 256).toNat) p q r) := H.re 1 7 [0, 1, 2, 6, 3, 4, 5] (by kernel_rfl)
    have H3 := Sat.absorb (L := [_, stars (sts.map St.own), _]) (i := 1) (p := stars (emp :: wrO d (h : Nat) (cutAt da dc ((sts.length : Int) * 256).toNat 1) ((((sts.length : Int) + 1) * 256).toNat - ((sts.length : Int) * 256).toNat) (dc - ((sts.length : Int) * 256).toNat) p q r)) (Sat.tail (A := [_, _, _]) H2) rfl
    obtain ⟨s1, hs1⟩ : ∃ s1 : St, s1 = ⟨wrV p q r, stars (emp :: wrO d (h : Nat) (cutAt da dc ((sts.length : Int) * 256).toNat 1) ((((sts.length : Int) + 1) * 256).toNat - ((sts.length : Int) * 256).toNat) (dc - ((sts.length : Int) * 256).toNat) p q r), wrS (h : Nat) (chk data sts.length)⟩ := ⟨_, rfl⟩
    refine loopQ_A (a31, c31, sts ++ [s1]) (by show hn - (sts ++ [s1]).length < hn - sts.length; rw [List.length_append, List.length_singleton]; omega) ⟨rfl, rfl, rfl, by rw [List.length_append]; rfl, rfl, rfl, by rw [List.length_append]; rfl, trivial⟩ ⟨?_, ?_, ?_, ?_⟩
    · show (sts ++ [s1]).length ≤ hn; rw [List.length_append, List.length_singleton]; omega
    · show (sts ++ [s1]).map St.st = (homeS0 homes data).take (sts ++ [s1]).length
      rw [List.length_append, List.length_singleton, List.take_add_one, hs0, List.map_append, hst, hs1]; rfl
    · intro s hs
      rcases List.mem_append.1 hs with hs | hs
      · exact hstp s hs
      · obtain rfl := List.mem_singleton.1 hs
        rw [hs1]
        refine wr_stp (E := emp) fun w0 w' H' => ?_
        have h1 := (hC w0 w' (H'.only (i := 0) rfl)).sub (cutAt_sub (lo := ((sts.length : Int) * 256).toNat) (hi := (((sts.length : Int) + 1) * 256).toNat) (hC w0 w' (H'.only (i := 0) rfl)) (by omega) (by omega)) (cap' := dc - ((sts.length : Int) * 256).toNat) (by omega) (by omega)
        rw [bys_drop, bys_take, Nat.mul_one, Nat.mul_one, show ((sts.length : Int) * 256).toNat = sts.length * 256 by omega, show (((sts.length : Int) + 1) * 256).toNat - sts.length * 256 = 256 by omega] at h1
        rw [show ((sts.length : Int) * 256).toNat = sts.length * 256 by omega, show (((sts.length : Int) + 1) * 256).toNat - sts.length * 256 = 256 by omega]
        exact h1
    · show Sat w _ [_, stars ((sts ++ [s1]).map St.own), slo 95 1 a31 (sts ++ [s1]).length c31 ((sts ++ [s1]).map St.f)]
      rw [List.length_append, List.map_append, List.map_append, hs1]
      exact H3
  · skip
    refine WP_exit ?_
    refine thenQ_e ?_
    refine loopQ_e ?_
    refine blockQ_hit ?_
    have hke : sts.length = hn := by omega
    rw [hke, List.take_of_length_le (by unfold homeS0; rw [List.length_map, List.length_range]; omega)] at hst
    refine thenQ_n ?_
    refine WP_rd (fun w_ => w_.cell? ⟨b5, 0, none⟩ = some (.int .i64 turn)) (.float 0 (.float 1 (.float 2 (.float 5 (.float 6 (.float 7 (.float 8 (.fork [(3, .fork [(4, .fork [(9, .fork [(10, .float 11 .done)])])])])))))))) (by kernel_rfl) (by kernel_rfl) (H.cell (i := 0) rfl rfl) ?_
    replace H := H.drew
    refine r_val rfl rfl (fun w hI => x_move (by conv => lhs; whnf)) ?_
    refine r_val rfl rfl (fun w hI => x_move (by conv => lhs; whnf)) ?_
    refine r_val rfl rfl (fun w hI => x_makeFuncE (l1 := [_]) (l2 := []) ⟨(by conv => lhs; whnf), trivial⟩ trivial) ?_
    refine r_val rfl rfl (fun w hI => x_move (by conv => lhs; whnf)) ?_
    refine r_val rfl rfl (fun w hI => x_move (by conv => lhs; whnf)) ?_
    refine r_val rfl rfl (fun w hI => x_field (off := 0) (by kernel_rfl) rfl) ?_
    refine r_val rfl rfl (fun w hI => x_load (by kernel_rfl) rfl (by first | assumption | exact H.cell (i := 0) rfl rfl)) ?_
    refine r_one rfl ?_
    refine s_buildSliceE (vs := [_]) rfl (show SlT Tryd.prog 66 95 1 8 from ⟨by kernel_rfl, by kernel_rfl⟩) (show ∃ z, ZeroT Tryd.prog 95 z ∧ z.cells.size = 1 from ⟨_, (show ZeroT Tryd.prog 95 (.nilFunc) by unfold ZeroT; kernel_rfl), rfl⟩) rfl ⟨(by conv => lhs; whnf), trivial⟩ rfl (by simp [Value.cells]) (by decide) H ?_
    clear H; intro b36 _ H
    simp only [List.cons_append, List.nil_append, List.flatMap_cons, List.flatMap_nil, Value.cells, List.append_nil] at H
    refine s_end ?_
    refine ⟨(H.cell (i := 0) rfl rfl), ?_⟩
    refine r_one rfl ?_
    refine s_append rfl (show SlT Tryd.prog 66 95 1 8 from ⟨by kernel_rfl, by kernel_rfl⟩) (show ∃ z, ZeroT Tryd.prog 95 z ∧ z.cells.size = 1 from ⟨_, (show ZeroT Tryd.prog 95 (.nilFunc) by unfold ZeroT; kernel_rfl), rfl⟩) ⟨_, (show SlT Tryd.prog 66 95 1 8 from ⟨by kernel_rfl, by kernel_rfl⟩).und⟩ rfl rfl H (i := 2) rfl (H.rd (i := 3) rfl) (by first | exact bys_oneCell _ | (intro u hu; simp at hu; rcases hu with rfl | rfl | rfl | rfl <;> rfl) | (intro u hu; simp at hu; subst hu; rfl) | (intro u hu; obtain ⟨_, _, rfl⟩ := List.mem_map.1 hu; rfl)) (by omega) (by omega) ?_
    clear H; intro a37 c37 _ H
    simp only [List.set_cons_zero, List.set_cons_succ] at H
    refine s_end ?_
    refine ⟨(H.cell (i := 0) rfl rfl), ?_⟩
    refine r_one rfl ?_
    refine s_call rfl (by kernel_rfl) (empty_calls H (hh.ext H0.ext) at_ turn ht X C) rfl rfl ?_
    clear H
    rintro _ w8 ⟨a8, n8, c8, st8, rfl, rfl, hst8, hstp8, H⟩
    simp only [List.cons_append, List.nil_append] at H
    refine s_end ?_
    refine ⟨(H.cell (i := 0) rfl rfl), ?_⟩
    refine r_one rfl ?_
    refine s_append rfl (show SlT Tryd.prog 66 95 1 8 from ⟨by kernel_rfl, by kernel_rfl⟩) (show ∃ z, ZeroT Tryd.prog 95 z ∧ z.cells.size = 1 from ⟨_, (show ZeroT Tryd.prog 95 (.nilFunc) by unfold ZeroT; kernel_rfl), rfl⟩) ⟨_, (show SlT Tryd.prog 66 95 1 8 from ⟨by kernel_rfl, by kernel_rfl⟩).und⟩ rfl rfl H (i := 2) rfl (H.rd (i := 5) rfl) (Stp.ones hstp8) (by omega) (by omega) ?_
    clear H; intro a43 c43 _ H
    simp only [List.set_cons_zero, List.set_cons_succ] at H
    refine s_end ?_
    refine ⟨(H.cell (i := 0) rfl rfl), ?_⟩
    refine r_val rfl rfl (fun w hI => x_assign (by conv => lhs; whnf)) ?_
    refine r_done ?_
    refine WP_ret ?_
    refine retQ_1 rfl (by conv => lhs; whnf) ?_
    refine ⟨_, _, _, sts ++ ⟨syV d, emp, syS⟩ :: st8, rfl, by rw [hke], by rw [List.map_append, List.map_cons, hst, hst8]; rfl, ?_, ?_⟩
    · intro s hs
      rcases List.mem_append.1 hs with hs | hs
      · exact hstp s hs
      · rcases List.mem_cons.1 hs with rfl | hs
        · exact sy_stp
        · exact hstp8 s hs
    · have H1 := (H.re 0 3 [2, 1, 4, 0, 3, 5] (by kernel_rfl)).merge
      have H2 := H0.more (H1.re 0 2 [1, 0] (by kernel_rfl))
      have e1 : (sts ++ ⟨syV d, emp, syS⟩ :: st8).map St.own = sts.map St.own ++ emp :: st8.map St.own := by rw [List.map_append, List.map_cons]
      have e2 : (sts ++ ⟨syV d, emp, syS⟩ :: st8).map St.f = sts.map St.f ++ [syV d] ++ st8.map St.f := by rw [List.map_append, List.map_cons, List.append_assoc]; rfl
      rw [e1, e2]
      exact H2
end Go.Sl
/- A log is read. -/
namespace Go.Sl
open Go.Proofs

def findP (p : Nat → Bool) : List Nat → Nat → Int
  | [], _ => -1
  | h :: l, i => if p h then (i : Int) else findP p l (i + 1)
theorem findP_any (p : Nat → Bool) : ∀ (l : List Nat) (i : Nat), decide (0 ≤ findP p l i) = l.any p
  | [], i => by rw [findP, List.any_nil]; rfl
  | h :: l, i => by
    rw [findP, List.any_cons]
    cases hp : p h with
    | true => simp
    | false => simp [findP_any p l (i + 1)]
theorem IndexFunc_calls {w : World} {a : Option Addr} {n cap g : Nat} {cp : List Value} {l : List Nat} {p : Nat → Bool} (HR : Rd w a n cap 1 (l.map natV)) (hn : n ≤ 4611686018427387904) (hb : bodyB Tryd.prog g = true)
    (hp : ∀ w' h, core w' = core w → h ∈ l → Calls Tryd.prog g (([] : List Value) ++ ([natV h] ++ cp)).toArray w' (Ret fun v w2 => v = .bool (p h) ∧ core w2 = core w')) :
    Calls Tryd.prog 67 #[.slice a n cap, .func (.func g) #[] cp.toArray] w (Ret fun v w' => v = .int .i64 (findP p l 0) ∧ core w' = core w) := by
  have hl : l.length = n := by have := HR.1; rw [List.length_map] at this; omega
  refine calls_of Tryd.func67 rfl rfl ?_
  refine WP_r rfl ?_
  refine s_val rfl (x_assign (by conv => lhs; whnf)) ?_
  refine s_end ?_
  refine WP_seq ?_
  refine WP_r rfl ?_
  refine s_val rfl (x_move (by conv => lhs; whnf)) ?_
  refine s_val rfl (x_lenS (by kernel_rfl) rfl) ?_
  refine s_val rfl (x_move (by conv => lhs; whnf)) ?_
  refine s_end ?_
  refine WP_block ?_
  refine WP_loopA (α := Nat) (fun k => [(0, .slice a n cap), (1, .func (.func g) #[] cp.toArray), (7, .int .i64 n), (8, .int .i64 k)]) (fun k w' => k ≤ n ∧ core w' = core w ∧ findP p l 0 = findP p (l.drop k) k) (fun k => n - k) 0 ⟨rfl, rfl, rfl, rfl, trivial⟩ ⟨Nat.zero_le _, rfl, rfl⟩ ?_
  rintro k ρ w1 ⟨hk, e1, hf⟩
  refine WP_r rfl ?_
  refine s_val rfl (x_lss rfl rfl) ?_
  refine s_end ?_
  refine WP_seq ?_
  refine WP_cond_dec rfl (fun h1 => ?_) (fun h1 => ?_)
  · skip
    refine WP_skip ?_
    refine thenQ_n ?_
    refine WP_seq ?_
    refine WP_block ?_
    refine WP_r rfl ?_
    refine s_val rfl (x_move (by conv => lhs; whnf)) ?_
    refine s_val rfl (x_assign (by conv => lhs; whnf)) ?_
    refine s_end ?_
    have HR2 := HR.heapEq e1
    obtain ⟨h, hh⟩ : ∃ h, l[k]? = some h := ⟨_, List.getElem?_eq_getElem (by omega)⟩
    have hel : ∀ j, j = k → (l.map natV)[j]? = some (natV h) := fun j hj => by subst hj; rw [List.getElem?_map, hh]; rfl
    have hd : l.drop k = h :: l.drop (k + 1) := by
      rw [List.drop_eq_getElem_cons (by omega : k < l.length)]
      rw [List.getElem?_eq_getElem (by omega)] at hh
      replace hh := Option.some.inj hh
      rw [hh]
    rw [hd, show findP p (h :: l.drop (k + 1)) k = if p h = true then (k : Int) else findP p (l.drop (k + 1)) (k + 1) from rfl] at hf
    refine WP_r rfl ?_
    refine s_val rfl (x_move (by conv => lhs; whnf)) ?_
    refine s_val rfl (x_move (by conv => lhs; whnf)) ?_
    refine s_val rfl (x_move (by conv => lhs; whnf)) ?_
    refine s_val rfl (x_index (show SlT Tryd.prog 22 3 1 8 from ⟨by kernel_rfl, by kernel_rfl⟩) rfl rfl (by omega) (by omega) HR2) ?_
    refine s_val rfl (x_loadR (by kernel_rfl) rfl HR2 (hel _ (by omega))) ?_
    refine s_call rfl hb (hp w1 h e1 (List.mem_of_getElem? hh)) rfl (by simp; rfl) ?_
    rintro _ w2 ⟨rfl, e2⟩
    replace e1 := e2.trans e1
    clear e2
    refine s_end ?_
    refine WP_cond rfl (fun h2 => ?_) (fun h2 => ?_)
    · skip
      refine WP_r rfl ?_
      refine s_val rfl (x_move (by conv => lhs; whnf)) ?_
      refine s_val rfl (x_assign (by conv => lhs; whnf)) ?_
      refine s_end ?_
      refine WP_ret ?_
      refine blockQ_r ?_
      refine thenQ_r ?_
      refine loopQ_r ?_
      refine blockQ_r ?_
      refine thenQ_r ?_
      refine retQ_1 rfl (by conv => lhs; whnf) ?_
      exact ⟨by rw [hf, if_pos (by assumption)], e1⟩
    · skip
      refine WP_skip ?_
      refine blockQ_n ?_
      refine thenQ_n ?_
      refine WP_region rfl ?_
      refine s_val rfl (x_addi rfl rfl (by omega)) ?_
      refine s_val rfl (x_move (by conv => lhs; whnf)) ?_
      refine s_end ?_
      refine loopQ_A (k + 1) (by omega) ⟨rfl, rfl, rfl, rfl, trivial⟩ ⟨by omega, e1, by rw [hf, if_neg (by rw [(by assumption : p h = false)]; decide)]⟩
  · skip
    refine WP_exit ?_
    refine thenQ_e ?_
    refine loopQ_e ?_
    refine blockQ_hit ?_
    refine thenQ_n ?_
    refine WP_r rfl ?_
    refine s_val rfl (x_assign (by conv => lhs; whnf)) ?_
    refine s_end ?_
    refine WP_ret ?_
    refine retQ_1 rfl (by conv => lhs; whnf) ?_
    exact ⟨by rw [hf, List.drop_of_length_le (by omega)]; rfl, e1⟩
theorem ContainsFunc_calls {w : World} {a : Option Addr} {n cap g : Nat} {cp : List Value} {l : List Nat} {p : Nat → Bool} (HR : Rd w a n cap 1 (l.map natV)) (hn : n ≤ 4611686018427387904) (hb : bodyB Tryd.prog g = true)
    (hp : ∀ w' h, core w' = core w → h ∈ l → Calls Tryd.prog g (([] : List Value) ++ ([natV h] ++ cp)).toArray w' (Ret fun v w2 => v = .bool (p h) ∧ core w2 = core w')) :
    Calls Tryd.prog 54 #[.slice a n cap, .func (.func g) #[] cp.toArray] w (Ret fun v w' => v = .bool (l.any p) ∧ core w' = core w) := by
  refine calls_of Tryd.func54 rfl rfl ?_
  refine WP_r rfl ?_
  refine s_val rfl (x_assign (by conv => lhs; whnf)) ?_
  refine s_end ?_
  refine WP_r rfl ?_
  refine s_val rfl (x_move (by conv => lhs; whnf)) ?_
  refine s_val rfl (x_move (by conv => lhs; whnf)) ?_
  refine s_call rfl (by kernel_rfl) (IndexFunc_calls HR hn hb hp) rfl rfl ?_
  rintro _ w2 ⟨rfl, e1⟩
  refine s_val rfl (x_geq rfl rfl) ?_
  refine s_val rfl (x_assign (by conv => lhs; whnf)) ?_
  refine s_end ?_
  refine WP_ret ?_
  refine retQ_1 rfl (by conv => lhs; whnf) ?_
  exact ⟨by rw [← findP_any p l 0], e1⟩
def rises : List Nat → Bool
  | a :: b :: l => decide (a < b) && rises (b :: l)
  | _ => true
theorem rising_calls {w : World} {a : Option Addr} {n cap : Nat} {l : List Nat} (HR : Rd w a n cap 1 (l.map natV)) (hn : n ≤ 4611686018427387904) :
    Calls Tryd.prog 55 #[.slice a n cap] w (Ret fun v w' => v = .bool (rises l) ∧ core w' = core w) := by
  have hl : l.length = n := by have := HR.1; rw [List.length_map] at this; omega
  refine calls_of Tryd.func55 rfl rfl ?_
  refine WP_r rfl ?_
  refine s_val rfl (x_assign (by conv => lhs; whnf)) ?_
  refine s_end ?_
  refine WP_seq ?_
  refine WP_r rfl ?_
  refine s_val rfl (x_assign (by conv => lhs; whnf)) ?_
  refine s_end ?_
  refine WP_block ?_
  refine WP_loopA (α := Nat) (fun k => [(0, .slice a n cap), (3, .int .i64 (k + 1 : Nat))]) (fun k w' => k ≤ n ∧ core w' = core w ∧ rises l = rises (l.drop k)) (fun k => n - k) 0 ⟨rfl, rfl, trivial⟩ ⟨Nat.zero_le _, rfl, rfl⟩ ?_
  rintro k ρ w1 ⟨hk, e1, hf⟩
  refine WP_seq ?_
  refine WP_r rfl ?_
  refine s_val rfl (x_move (by conv => lhs; whnf)) ?_
  refine s_val rfl (x_move (by conv => lhs; whnf)) ?_
  refine s_val rfl (x_lenS (by kernel_rfl) rfl) ?_
  refine s_val rfl (x_lss rfl rfl) ?_
  refine s_end ?_
  refine WP_cond_dec rfl (fun h1 => ?_) (fun h1 => ?_)
  · skip
    refine WP_skip ?_
    refine thenQ_n ?_
    refine WP_seq ?_
    refine WP_block ?_
    obtain ⟨b, hb⟩ : ∃ b, l[k]? = some b := ⟨_, List.getElem?_eq_getElem (by omega)⟩
    obtain ⟨c, hc⟩ : ∃ c, l[k + 1]? = some c := ⟨_, List.getElem?_eq_getElem (by omega)⟩
    have hel : ∀ j, j = k → (l.map natV)[j]? = some (.int .i64 (b : Nat)) := fun j hj => by subst hj; rw [List.getElem?_map, hb]; rfl
    have hel' : ∀ j, j = k + 1 → (l.map natV)[j]? = some (.int .i64 (c : Nat)) := fun j hj => by subst hj; rw [List.getElem?_map, hc]; rfl
    have hd : l.drop k = b :: c :: l.drop (k + 2) := by
      rw [List.getElem?_eq_getElem (by omega)] at hb hc
      replace hb := Option.some.inj hb
      replace hc := Option.some.inj hc
      rw [List.drop_eq_getElem_cons (by omega : k < l.length), List.drop_eq_getElem_cons (by omega : k + 1 < l.length), hb, hc]
    have hd2 : l.drop (k + 1) = c :: l.drop (k + 2) := by
      rw [List.getElem?_eq_getElem (by omega)] at hc
      replace hc := Option.some.inj hc
      rw [List.drop_eq_getElem_cons (by omega : k + 1 < l.length), hc]
    rw [hd, show rises (b :: c :: l.drop (k + 2)) = (decide (b < c) && rises (c :: l.drop (k + 2))) from rfl, ← hd2] at hf
    refine WP_rd (fun w' => core w' = core w) (.float 0 (.float 1 (.float 2 (.float 3 (.float 4 (.float 5 (.float 6 (.float 7 (.float 8 (.float 9 .done)))))))))) (by kernel_rfl) (by kernel_rfl) e1 ?_
    refine r_val rfl rfl (fun w hI => x_move (by conv => lhs; whnf)) ?_
    refine r_val rfl rfl (fun w hI => x_move (by conv => lhs; whnf)) ?_
    refine r_val rfl rfl (fun w hI => x_subi rfl rfl (by omega)) ?_
    refine r_val rfl rfl (fun w hI => x_index (show SlT Tryd.prog 22 3 1 8 from ⟨by kernel_rfl, by kernel_rfl⟩) rfl rfl (by omega) (by omega) (HR.heapEq hI)) ?_
    refine r_val rfl rfl (fun w hI => x_loadR (by kernel_rfl) rfl (HR.heapEq hI) (hel _ (by omega))) ?_
    refine r_val rfl rfl (fun w hI => x_move (by conv => lhs; whnf)) ?_
    refine r_val rfl rfl (fun w hI => x_move (by conv => lhs; whnf)) ?_
    refine r_val rfl rfl (fun w hI => x_index (show SlT Tryd.prog 22 3 1 8 from ⟨by kernel_rfl, by kernel_rfl⟩) rfl rfl (by omega) (by omega) (HR.heapEq hI)) ?_
    refine r_val rfl rfl (fun w hI => x_loadR (by kernel_rfl) rfl (HR.heapEq hI) (hel' _ (by omega))) ?_
    refine r_val rfl rfl (fun w hI => x_geq rfl rfl) ?_
    refine r_done ?_
    refine WP_cond_dec rfl (fun h2 => ?_) (fun h2 => ?_)
    · skip
      refine WP_r rfl ?_
      refine s_val rfl (x_assign (by conv => lhs; whnf)) ?_
      refine s_end ?_
      refine WP_ret ?_
      refine blockQ_r ?_
      refine thenQ_r ?_
      refine loopQ_r ?_
      refine blockQ_r ?_
      refine thenQ_r ?_
      refine retQ_1 rfl (by conv => lhs; whnf) ?_
      exact ⟨by rw [hf, decide_eq_false (by omega)]; rfl, e1⟩
    · skip
      refine WP_skip ?_
      refine blockQ_n ?_
      refine thenQ_n ?_
      refine WP_region rfl ?_
      refine s_val rfl (x_move (by conv => lhs; whnf)) ?_
      refine s_val rfl (x_addi rfl rfl (by omega)) ?_
      refine s_val rfl (x_assign (by conv => lhs; whnf)) ?_
      refine s_end ?_
      refine loopQ_A (k + 1) (by omega) ⟨rfl, rfl, trivial⟩ ⟨by omega, e1, by rw [hf, decide_eq_true (by omega)]; rfl⟩
  · skip
    refine WP_exit ?_
    refine thenQ_e ?_
    refine loopQ_e ?_
    refine blockQ_hit ?_
    refine thenQ_n ?_
    refine WP_r rfl ?_
    refine s_val rfl (x_assign (by conv => lhs; whnf)) ?_
    refine s_end ?_
    refine WP_ret ?_
    refine retQ_1 rfl (by conv => lhs; whnf) ?_
    have hlast : rises (l.drop k) = true := by
      have : (l.drop k).length ≤ 1 := by rw [List.length_drop]; omega
      match hq : l.drop k, this with
      | [], _ => rfl
      | [_], _ => rfl
    exact ⟨by rw [hf, hlast], e1⟩
theorem out_calls {w : World} {d : Nat} {x : D} (h : HoldD w d x) {at_ cap : Int} {p q r : Nat} (hp : w.cell? ⟨p, 0, none⟩ = some (.int .i64 at_)) (hq : w.cell? ⟨q, 0, none⟩ = some (.int .i64 cap)) (hr : w.cell? ⟨r, 0, none⟩ = some (dp d)) (k : Nat)
    (hb : -9223372036854775808 ≤ at_ + cap ∧ at_ + cap ≤ 9223372036854775807) :
    Calls Tryd.prog 53 #[natV k, pp p, pp q, pp r] w (Ret fun v w' => v = .bool (decide ((k : Int) ≤ at_ + cap ∨ (x.vals.length : Int) ≤ k)) ∧ core w' = core w) := by
  refine calls_of Tryd.func53 rfl rfl ?_
  refine WP_r rfl ?_
  refine s_val rfl (x_assign (by conv => lhs; whnf)) ?_
  refine s_end ?_
  refine WP_r rfl ?_
  refine s_val rfl (x_move (by conv => lhs; whnf)) ?_
  refine s_val rfl (x_load (by kernel_rfl) rfl (by first | exact hp | exact hq | exact hr)) ?_
  refine s_val rfl (x_load (by kernel_rfl) rfl (by first | exact hp | exact hq | exact hr)) ?_
  refine s_val rfl (x_addi rfl rfl (by omega)) ?_
  refine s_val rfl (x_leq rfl rfl) ?_
  refine s_dec rfl (x_move rfl) (fun h1 => ?_) (fun h1 => ?_)
  · skip
    refine s_out rfl ?_
    refine s_out rfl ?_
    refine s_out rfl ?_
    refine s_out rfl ?_
    refine s_val rfl (x_pick_true rfl (by conv => lhs; whnf)) ?_
    refine s_val rfl (x_assign (by conv => lhs; whnf)) ?_
    refine s_end ?_
    refine WP_ret ?_
    refine retQ_1 rfl (by conv => lhs; whnf) ?_
    exact ⟨by first | rw [decide_eq_true (p := (k : Int) ≤ at_ + cap ∨ (x.vals.length : Int) ≤ k) (by omega)] | (congr 1; exact decide_eq_decide.2 (by omega)), by first | exact rfl | exact e1⟩
  · skip
    refine s_val rfl (x_move (by conv => lhs; whnf)) ?_
    refine s_val rfl (x_load (by kernel_rfl) rfl (by first | exact hp | exact hq | exact hr)) ?_
    refine s_call rfl (by kernel_rfl) (Sectors_calls h) rfl rfl ?_
    rintro _ _ ⟨rfl, e1⟩
    refine s_val rfl (x_geq rfl rfl) ?_
    refine s_val rfl (x_pick_false rfl (by conv => lhs; whnf)) ?_
    refine s_val rfl (x_assign (by conv => lhs; whnf)) ?_
    refine s_end ?_
    refine WP_ret ?_
    refine retQ_1 rfl (by conv => lhs; whnf) ?_
    exact ⟨by first | rw [decide_eq_true (p := (k : Int) ≤ at_ + cap ∨ (x.vals.length : Int) ≤ k) (by omega)] | (congr 1; exact decide_eq_decide.2 (by omega)), by first | exact rfl | exact e1⟩
end Go.Sl
/- A log is read: the whole. -/
namespace Go.Sl
open Go.Proofs

structure Lg where
  e : Int
  turn : Nat
  homes : List Nat
  data : List UInt8
def lgErr (e : Int) : Lg := ⟨e, 0, [], []⟩
def D.logPlace (x : D) (at_ cap : Int) : Prop := 1 ≤ cap ∧ cap ≤ 100 ∧ 0 ≤ at_ ∧ at_ < x.vals.length - cap
instance (x : D) (at_ cap : Int) : Decidable (x.logPlace at_ cap) := by unfold D.logPlace; infer_instance
def num (b : List UInt8) (at_ size : Nat) : Nat := leN ((b.drop at_).take size)
/-- What a header's sector logs. -/
def D.homesOf (b : List UInt8) : List Nat := (List.range (num b 8 2)).map fun i => num b (10 + 2 * i) 2
def D.dataOf (x : D) (at_ : Nat) (b : List UInt8) : List UInt8 := (List.range (num b 8 2)).flatMap fun i => x.latest (at_ + 1 + i)
def D.logged (x : D) (at_ cap : Int) : Lg :=
  if ¬ x.logPlace at_ cap then lgErr 2 else
  if (x.read at_).1 ≠ 0 then lgErr (x.read at_).1 else
  if cap < num (x.read at_).2 8 2 then lgErr 40 else
  if (D.homesOf (x.read at_).2).any (fun h => decide ((h : Int) ≤ at_ + cap ∨ (x.vals.length : Int) ≤ h)) = true ∨ rises (D.homesOf (x.read at_).2) = false ∨ hdr (num (x.read at_).2 4 4) (D.homesOf (x.read at_).2) (x.dataOf at_.toNat (x.read at_).2) ≠ (x.read at_).2 then lgErr 40
  else ⟨0, num (x.read at_).2 4 4, D.homesOf (x.read at_).2, x.dataOf at_.toNat (x.read at_).2⟩
theorem x_eql_no {P : Program} {ρ : Fr} {w : World} {ty t yt : TypeId} {x y : Operand} {k : IntKind} {a b : Int} (hx : ev ρ x = .int k a) (hy : ev ρ y = .int k b) (h : ¬ a = b) : Ev1 P (.binOp .eql t x y yt) ty ρ w (.bool false) w := by
  have h1 := x_eql (P := P) (ty := ty) (w := w) (t := t) (yt := yt) hx hy
  rwa [decide_eq_false h] at h1
theorem bys_ints (l : List UInt8) : bys l = (l.map fun b => (b.toNat : Int)).map (Value.int .u8) := by unfold bys; rw [List.map_map]; rfl
theorem ints_inj {l m : List UInt8} : (l.map fun b => (b.toNat : Int)) = (m.map fun b => (b.toNat : Int)) ↔ l = m := by
  constructor
  · intro h
    have : ∀ (l m : List UInt8), (l.map fun b => (b.toNat : Int)) = (m.map fun b => (b.toNat : Int)) → l = m := by
      intro l
      induction l with
      | nil => intro m h; cases m with
        | nil => rfl
        | cons => simp at h
      | cons a l ih => intro m h; cases m with
        | nil => simp at h
        | cons b m =>
          simp only [List.map_cons, List.cons.injEq] at h
          rw [ih m h.2, UInt8.toNat_inj.1 (Int.ofNat_inj.1 h.1)]
    exact this l m h
  · rintro rfl; rfl
theorem x_neqBytes {P : Program} {ρ : Fr} {w : World} {ty t yt e : TypeId} {x y : Operand} {n : Nat} {l m : List UInt8} (hu : P.underlying t = some (.array n e)) (hz : ((P.info? e).map fun i => i.size) = some 1) (he : P.underlying e = some (.int .u8)) (hg : P.eqGuardType P.depth t = false) (hl : l.length = n) (hl' : m.length = n)
    (hx : ev ρ x = .agg (bys l).toArray) (hy : ev ρ y = .agg (bys m).toArray) : Ev1 P (.binOp .neq t x y yt) ty ρ w (.bool (!decide (l = m))) w := by
  have h := x_neqArr (P := P) (ty := ty) (w := w) (yt := yt) hu hz he hg (xs := l.map fun b => (b.toNat : Int)) (ys := m.map fun b => (b.toNat : Int)) (by rw [List.length_map, hl]) (by rw [List.length_map, hl']) (by rw [hx, bys_ints]) (by rw [hy, bys_ints])
  rwa [decide_eq_decide.2 ints_inj] at h
theorem getN_ok {bs : List UInt8} {u v : Int} (a s : Nat) (hu : u = a) (hv : v = s) (h1 : 1 ≤ s) (h4 : s ≤ 4) (hl : a + s ≤ bs.length) : getN bs u v = (((num bs a s : Nat) : Int), (0 : Int)) := by
  subst hu hv
  unfold getN
  rw [if_pos (by unfold There; omega), Int.toNat_natCast, Int.toNat_natCast]; rfl
theorem num_lt {bs : List UInt8} {a s : Nat} (hl : a + s ≤ bs.length) : num bs a s < 256 ^ s := by
  have h := leN_lt ((bs.drop a).take s)
  rw [List.length_take, List.length_drop, Nat.min_eq_left (by omega)] at h
  exact h
theorem read_ok {x : D} (hok : x.Ok) {at_ : Int} (h : (x.read at_).1 = 0) : 0 ≤ at_ ∧ at_ < x.vals.length ∧ (x.read at_).2.length = 256 ∧ x.off = false ∧ (x.read at_).2 = x.latest at_.toNat := by
  unfold D.read at h ⊢
  split at h
  · cases h
  · rename_i h1
    split at h
    · cases h
    · rename_i h2
      rw [if_neg h1, if_neg h2]
      obtain ⟨l, _, _, h3⟩ := D.latest_at hok (i := at_.toNat) (by omega)
      exact ⟨by omega, by omega, h3, by simpa using h2, rfl⟩
theorem read_at {x : D} (hoff : x.off = false) {at_ : Int} (h0 : 0 ≤ at_) (h1 : at_ < x.vals.length) : x.read at_ = (0, x.latest at_.toNat) := by
  unfold D.read
  rw [if_neg (by omega), if_neg (by rw [hoff]; decide)]
theorem dataOf_len {x : D} (hok : x.Ok) (at_ : Nat) : ∀ (k : Nat), at_ + 1 + k ≤ x.vals.length → ((List.range k).flatMap fun i => x.latest (at_ + 1 + i)).length = 256 * k := by
  intro k
  induction k with
  | zero => intro _; rfl
  | succ k ih =>
    intro h
    obtain ⟨_, _, _, h3⟩ := D.latest_at hok (i := at_ + 1 + k) (by omega)
    rw [List.range_succ, List.flatMap_append, List.length_append, ih (by omega), List.flatMap_cons, List.flatMap_nil, List.append_nil, h3]; omega
theorem read_calls {w : World} (hh : Half w) {d : Nat} {x : D} (h : HoldD w d x) (at_ cap : Int) :
    Calls Tryd.prog 28 #[dp d, .int .i64 at_, .int .i64 cap] w (Ret fun v w' => ∃ (ia : Option Addr) (hn hc : Nat) (da : Option Addr) (dn dc : Nat), v = .tuple #[.agg (lcells (x.logged at_ cap).turn ia hn hc da dn dc).toArray, .int .i64 (x.logged at_ cap).e] ∧
      Sat w w' [slo 3 1 ia hn hc ((x.logged at_ cap).homes.map natV), slo 5 1 da dn dc (bys (x.logged at_ cap).data)]) := by
  have H := Sat.nil (Ext.refl w)
  have hok := h.ok
  have hpos := hok.pos
  have hbig := hok.big
  refine calls_of Tryd.func28 rfl rfl ?_
  refine WP_r rfl ?_
  refine s_box1 rfl (by conv => lhs; whnf) rfl H ?_
  clear H; intro b3 _ H
  simp only [List.cons_append, List.nil_append] at H
  refine s_box1 rfl (by conv => lhs; whnf) rfl H ?_
  clear H; intro b4 _ H
  simp only [List.cons_append, List.nil_append] at H
  refine s_box1 rfl (by conv => lhs; whnf) rfl H ?_
  clear H; intro b5 _ H
  simp only [List.cons_append, List.nil_append] at H
  refine s_allocA rfl (show ZeroT Tryd.prog 62 (.agg #[.int .i64 0, .slice none 0 0, .slice none 0 0]) by unfold ZeroT; kernel_rfl) H ?_
  clear H; intro b6 _ H
  simp only [List.cons_append, List.nil_append] at H
  refine s_val rfl (x_assign (by conv => lhs; whnf)) ?_
  refine s_end ?_
  refine WP_seq ?_
  refine WP_block ?_
  have hnil : ∀ w' e, Ext w w' → x.logged at_ cap = lgErr e → ∃ (ia : Option Addr) (hn hc : Nat) (da : Option Addr) (dn dc : Nat), Value.tuple #[.agg #[.int .i64 (0 : Nat), .slice none 0 0, .slice none 0 0], .int .i64 e] = .tuple #[.agg (lcells (x.logged at_ cap).turn ia hn hc da dn dc).toArray, .int .i64 (x.logged at_ cap).e] ∧
      Sat w w' [slo 3 1 ia hn hc ((x.logged at_ cap).homes.map natV), slo 5 1 da dn dc (bys (x.logged at_ cap).data)] := fun w' e hE he => by
    rw [he]
    exact ⟨none, 0, 0, none, 0, 0, rfl, ((Sat.nil hE).addNil _ _).addNil _ _⟩
  refine WP_r rfl ?_
  refine s_val rfl (x_load (by kernel_rfl) rfl (by first | assumption | exact H.cell (i := 0) rfl rfl | exact H.cell (i := 1) rfl rfl | exact H.cell (i := 2) rfl rfl | exact H.cell (i := 3) rfl rfl | exact H.cell (i := 4) rfl rfl | exact H.cell (i := 5) rfl rfl | exact H.cell (i := 6) rfl rfl | exact H.cell (i := 7) rfl rfl | exact H.cell (i := 8) rfl rfl | exact H.cell (i := 9) rfl rfl | exact H.cell (i := 10) rfl rfl | exact H.cell (i := 11) rfl rfl)) ?_
  refine s_call rfl (by kernel_rfl) (Sectors_calls (h.ext H.ext)) rfl rfl ?_
  rintro _ _ ⟨rfl, e_⟩; replace H := H.heapEq e_; clear e_
  refine s_val rfl (x_eql_no rfl rfl (by omega)) ?_
  refine s_val rfl (x_assign (by conv => lhs; whnf)) ?_
  refine s_end ?_
  refine WP_cond_false rfl ?_
  refine WP_r rfl ?_
  refine s_val rfl (x_load (by kernel_rfl) rfl (by first | assumption | exact H.cell (i := 0) rfl rfl | exact H.cell (i := 1) rfl rfl | exact H.cell (i := 2) rfl rfl | exact H.cell (i := 3) rfl rfl | exact H.cell (i := 4) rfl rfl | exact H.cell (i := 5) rfl rfl | exact H.cell (i := 6) rfl rfl | exact H.cell (i := 7) rfl rfl | exact H.cell (i := 8) rfl rfl | exact H.cell (i := 9) rfl rfl | exact H.cell (i := 10) rfl rfl | exact H.cell (i := 11) rfl rfl)) ?_
  refine s_val rfl (x_load (by kernel_rfl) rfl (by first | assumption | exact H.cell (i := 0) rfl rfl | exact H.cell (i := 1) rfl rfl | exact H.cell (i := 2) rfl rfl | exact H.cell (i := 3) rfl rfl | exact H.cell (i := 4) rfl rfl | exact H.cell (i := 5) rfl rfl | exact H.cell (i := 6) rfl rfl | exact H.cell (i := 7) rfl rfl | exact H.cell (i := 8) rfl rfl | exact H.cell (i := 9) rfl rfl | exact H.cell (i := 10) rfl rfl | exact H.cell (i := 11) rfl rfl)) ?_
  refine s_val rfl (x_load (by kernel_rfl) rfl (by first | assumption | exact H.cell (i := 0) rfl rfl | exact H.cell (i := 1) rfl rfl | exact H.cell (i := 2) rfl rfl | exact H.cell (i := 3) rfl rfl | exact H.cell (i := 4) rfl rfl | exact H.cell (i := 5) rfl rfl | exact H.cell (i := 6) rfl rfl | exact H.cell (i := 7) rfl rfl | exact H.cell (i := 8) rfl rfl | exact H.cell (i := 9) rfl rfl | exact H.cell (i := 10) rfl rfl | exact H.cell (i := 11) rfl rfl)) ?_
  refine s_call rfl (by kernel_rfl) (place_calls (h.ext H.ext) at_ cap) rfl rfl ?_
  rintro _ _ ⟨rfl, e_⟩; replace H := H.heapEq e_; clear e_
  refine s_val rfl (x_not rfl) ?_
  refine s_val rfl (x_assign (by conv => lhs; whnf)) ?_
  refine s_end ?_
  refine WP_cond rfl (fun h1 => ?_) (fun h1 => ?_)
  · have hp1 := h1
    refine WP_r rfl ?_
    refine s_val rfl (x_buildE (vs := []) (show StT Tryd.prog 62 #[.int .i64 0, .slice none 0 0, .slice none 0 0] #[(0, 1), (1, 1), (2, 1)] from ⟨by kernel_rfl, by kernel_rfl⟩) trivial (show _ = some [_, _, _] from rfl)) ?_
    refine s_storeAll rfl (n := 3) (by kernel_rfl) rfl rfl rfl (by simp [Value.oneCell']) H (i := 3) rfl rfl ?_
    clear H; intro _ H
    simp only [List.set_cons_zero, List.set_cons_succ] at H
    refine s_val rfl (x_assign (by conv => lhs; whnf)) ?_
    refine s_end ?_
    refine WP_ret ?_
    refine blockQ_r ?_
    refine thenQ_r ?_
    refine retQ_c1t1 (n := 3) rfl (by conv => lhs; whnf) (by conv => lhs; whnf) (by kernel_rfl) rfl (fun j u hj => H.cellsAt (i := 3) rfl hj) ?_
    refine hnil _ 2 H.ext ?_
    unfold D.logged
    rw [if_pos (by unfold D.logPlace; simp at hp1; omega)]
  · have hp1 := h1
    refine WP_skip ?_
    refine blockQ_n ?_
    refine thenQ_n ?_
    have hpl : x.logPlace at_ cap := by unfold D.logPlace; simp at hp1; omega
    have hpl2 := id hpl
    unfold D.logPlace at hpl2
    refine WP_r rfl ?_
    refine s_val rfl (x_load (by kernel_rfl) rfl (by first | assumption | exact H.cell (i := 0) rfl rfl | exact H.cell (i := 1) rfl rfl | exact H.cell (i := 2) rfl rfl | exact H.cell (i := 3) rfl rfl | exact H.cell (i := 4) rfl rfl | exact H.cell (i := 5) rfl rfl | exact H.cell (i := 6) rfl rfl | exact H.cell (i := 7) rfl rfl | exact H.cell (i := 8) rfl rfl | exact H.cell (i := 9) rfl rfl | exact H.cell (i := 10) rfl rfl | exact H.cell (i := 11) rfl rfl)) ?_
    refine s_val rfl (x_load (by kernel_rfl) rfl (by first | assumption | exact H.cell (i := 0) rfl rfl | exact H.cell (i := 1) rfl rfl | exact H.cell (i := 2) rfl rfl | exact H.cell (i := 3) rfl rfl | exact H.cell (i := 4) rfl rfl | exact H.cell (i := 5) rfl rfl | exact H.cell (i := 6) rfl rfl | exact H.cell (i := 7) rfl rfl | exact H.cell (i := 8) rfl rfl | exact H.cell (i := 9) rfl rfl | exact H.cell (i := 10) rfl rfl | exact H.cell (i := 11) rfl rfl)) ?_
    refine s_call rfl (by kernel_rfl) (Read_calls (h.ext H.ext) at_) rfl rfl ?_
    rintro _ _ ⟨a31, n31, c31, rfl, H_⟩; replace H := H.more H_; clear H_
    simp only [List.cons_append, List.nil_append] at H
    refine s_val rfl (x_move (by conv => lhs; whnf)) ?_
    refine s_val rfl (x_extract rfl rfl) ?_
    refine s_val rfl (x_extract rfl rfl) ?_
    refine s_val rfl (x_assign (by conv => lhs; whnf)) ?_
    refine s_val rfl (x_assign (by conv => lhs; whnf)) ?_
    refine s_end ?_
    refine WP_seq ?_
    refine WP_r rfl ?_
    refine s_val rfl (x_move (by conv => lhs; whnf)) ?_
    refine s_val rfl (x_neq rfl rfl) ?_
    refine s_end ?_
    refine WP_cond_dec rfl (fun h2 => ?_) (fun h2 => ?_)
    · skip
      refine WP_r rfl ?_
      refine s_val rfl (x_buildE (vs := []) (show StT Tryd.prog 62 #[.int .i64 0, .slice none 0 0, .slice none 0 0] #[(0, 1), (1, 1), (2, 1)] from ⟨by kernel_rfl, by kernel_rfl⟩) trivial (show _ = some [_, _, _] from rfl)) ?_
      refine s_val rfl (x_move (by conv => lhs; whnf)) ?_
      refine s_storeAll rfl (n := 3) (by kernel_rfl) rfl rfl rfl (by simp [Value.oneCell']) H (i := 3) rfl rfl ?_
      clear H; intro _ H
      simp only [List.set_cons_zero, List.set_cons_succ] at H
      refine s_val rfl (x_assign (by conv => lhs; whnf)) ?_
      refine s_end ?_
      refine WP_ret ?_
      refine thenQ_r ?_
      refine retQ_c1t1 (n := 3) rfl (by conv => lhs; whnf) (by conv => lhs; whnf) (by kernel_rfl) rfl (fun j u hj => H.cellsAt (i := 3) rfl hj) ?_
      refine hnil _ _ H.ext ?_
      unfold D.logged
      rw [if_neg (not_not_intro hpl), if_pos (by assumption)]
    · skip
      refine WP_skip ?_
      refine thenQ_n ?_
      have he0 : (x.read at_).1 = 0 := Classical.byContradiction (by assumption)
      obtain ⟨_, _, hbl, hoff, hlat⟩ := read_ok hok he0
      have hn31 : n31 = 256 := by have := (H.rd (i := 4) rfl).1; rw [bys_length] at this; omega
      subst hn31
      obtain ⟨b, hb⟩ : ∃ b, (x.read at_).2 = b := ⟨_, rfl⟩
      rw [hb] at H hbl
      have hcnt := num_lt (bs := b) (a := 8) (s := 2) (by omega)
      have htn := num_lt (bs := b) (a := 4) (s := 4) (by omega)
      refine WP_r rfl ?_
      refine s_allocA rfl (show ZeroT Tryd.prog 62 (.agg #[.int .i64 0, .slice none 0 0, .slice none 0 0]) by unfold ZeroT; kernel_rfl) H ?_
      clear H; intro b10 _ H
      simp only [List.cons_append, List.nil_append] at H
      refine s_end ?_
      refine WP_r rfl ?_
      refine s_val rfl (x_move (by conv => lhs; whnf)) ?_
      refine s_call rfl (by kernel_rfl) (Get_calls (H.rd (i := 4) rfl) 4 4 (by decide)) rfl rfl ?_
      rintro _ w_ ⟨rfl, e_⟩; replace e_ := e_.symm; subst e_
      rw [getN_ok (bs := b) (u := 4) (v := 4) 4 4 rfl rfl (by decide) (by decide) (by omega)]
      refine s_val rfl (x_move (by conv => lhs; whnf)) ?_
      refine s_val rfl (x_extract rfl rfl) ?_
      refine s_val rfl (x_extract rfl rfl) ?_
      refine s_val rfl (x_field (off := 0) (by kernel_rfl) rfl) ?_
      refine s_store rfl (by kernel_rfl) rfl (by conv => lhs; whnf) rfl H (i := 5) rfl rfl ?_
      clear H; intro _ H
      simp only [List.set_cons_zero, List.set_cons_succ, List.setIfInBounds_toArray] at H
      refine s_end ?_
      refine WP_r rfl ?_
      refine s_val rfl (x_move (by conv => lhs; whnf)) ?_
      refine s_call rfl (by kernel_rfl) (Get_calls (H.rd (i := 4) rfl) 8 2 (by decide)) rfl rfl ?_
      rintro _ w_ ⟨rfl, e_⟩; replace e_ := e_.symm; subst e_
      rw [getN_ok (bs := b) (u := 8) (v := 2) 8 2 rfl rfl (by decide) (by decide) (by omega)]
      refine s_val rfl (x_move (by conv => lhs; whnf)) ?_
      refine s_val rfl (x_extract rfl rfl) ?_
      refine s_val rfl (x_extract rfl rfl) ?_
      refine s_val rfl (x_assign (by conv => lhs; whnf)) ?_
      refine s_val rfl (x_assign (by conv => lhs; whnf)) ?_
      refine s_end ?_
      refine WP_seq ?_
      refine WP_r rfl ?_
      refine s_val rfl (x_move (by conv => lhs; whnf)) ?_
      refine s_val rfl (x_load (by kernel_rfl) rfl (by first | assumption | exact H.cell (i := 0) rfl rfl | exact H.cell (i := 1) rfl rfl | exact H.cell (i := 2) rfl rfl | exact H.cell (i := 3) rfl rfl | exact H.cell (i := 4) rfl rfl | exact H.cell (i := 5) rfl rfl | exact H.cell (i := 6) rfl rfl | exact H.cell (i := 7) rfl rfl | exact H.cell (i := 8) rfl rfl | exact H.cell (i := 9) rfl rfl | exact H.cell (i := 10) rfl rfl | exact H.cell (i := 11) rfl rfl)) ?_
      refine s_val rfl (x_gtr rfl rfl) ?_
      refine s_end ?_
      refine WP_cond_dec rfl (fun h3 => ?_) (fun h3 => ?_)
      · skip
        refine WP_r rfl ?_
        refine s_val rfl (x_buildE (vs := []) (show StT Tryd.prog 62 #[.int .i64 0, .slice none 0 0, .slice none 0 0] #[(0, 1), (1, 1), (2, 1)] from ⟨by kernel_rfl, by kernel_rfl⟩) trivial (show _ = some [_, _, _] from rfl)) ?_
        refine s_storeAll rfl (n := 3) (by kernel_rfl) rfl rfl rfl (by simp [Value.oneCell']) H (i := 3) rfl rfl ?_
        clear H; intro _ H
        simp only [List.set_cons_zero, List.set_cons_succ] at H
        refine s_val rfl (x_assign (by conv => lhs; whnf)) ?_
        refine s_end ?_
        refine WP_ret ?_
        refine thenQ_r ?_
        refine retQ_c1t1 (n := 3) rfl (by conv => lhs; whnf) (by conv => lhs; whnf) (by kernel_rfl) rfl (fun j u hj => H.cellsAt (i := 3) rfl hj) ?_
        refine hnil _ 40 H.ext ?_
        unfold D.logged
        rw [if_neg (not_not_intro hpl), if_neg (not_not_intro he0), hb, if_pos (by omega)]
      · skip
        refine WP_skip ?_
        refine thenQ_n ?_
        refine WP_seq ?_
        have hcap : num b 8 2 ≤ 100 ∧ (num b 8 2 : Int) ≤ cap := by omega
        obtain ⟨m, hm⟩ : ∃ m, num b 8 2 = m := ⟨_, rfl⟩
        rw [hm] at hcap
        simp only [hm]
        refine WP_r rfl ?_
        refine s_val rfl (x_move (by conv => lhs; whnf)) ?_
        refine s_val rfl (x_move (by conv => lhs; whnf)) ?_
        refine s_end ?_
        refine WP_block ?_
        replace H := Sat.addNil 5 1 (Sat.addNil 3 1 H)
        simp only [List.cons_append, List.nil_append] at H
        refine WP_loopA (α := Option Addr × Nat × Option Addr × Nat × Nat) (fun p => [(3, pp b3), (4, pp b4), (5, pp b5), (6, pp b6), (8, .slice a31 256 c31), (10, pp b10), (56, .int .i64 m), (57, .int .i64 p.2.2.2.2)])
          (fun p w' => p.2.2.2.2 ≤ m ∧ Sat w w' [blk b3 (.cells #[dp d] 25 (0, 0)), blk b4 (.cells #[.int .i64 at_] 3 (0, 0)), blk b5 (.cells #[.int .i64 cap] 3 (0, 0)), blk b6 (.cells [.int .i64 0, .slice none 0 0, .slice none 0 0].toArray 62 (0, 0)), slo 5 1 a31 256 c31 (bys b),
            blk b10 (.cells (lcells (num b 4 4) p.1 p.2.2.2.2 p.2.1 p.2.2.1 (256 * p.2.2.2.2) p.2.2.2.1).toArray 62 (0, 0)), slo 3 1 p.1 p.2.2.2.2 p.2.1 (((List.range p.2.2.2.2).map fun i => num b (10 + 2 * i) 2).map natV), slo 5 1 p.2.2.1 (256 * p.2.2.2.2) p.2.2.2.1 (bys ((List.range p.2.2.2.2).flatMap fun i => x.latest (at_.toNat + 1 + i)))])
          (fun p => m - p.2.2.2.2) (none, 0, none, 0, 0) ⟨rfl, rfl, rfl, rfl, rfl, rfl, rfl, rfl, trivial⟩ ⟨Nat.zero_le _, H⟩ ?_
        clear H
        rintro ⟨ia, hc, da, dc, k⟩ ρ w5 ⟨hkm, H⟩
        dsimp only at hkm H ⊢
        refine WP_r rfl ?_
        refine s_val rfl (x_lss rfl rfl) ?_
        refine s_end ?_
        refine WP_seq ?_
        refine WP_cond_dec rfl (fun h4 => ?_) (fun h4 => ?_)
        · skip
          refine WP_skip ?_
          refine thenQ_n ?_
          refine WP_seq ?_
          refine WP_block ?_
          have hk4 := num_lt (bs := b) (a := 10 + 2 * k) (s := 2) (by omega)
          refine WP_r rfl ?_
          refine s_val rfl (x_move (by conv => lhs; whnf)) ?_
          refine s_val rfl (x_assign (by conv => lhs; whnf)) ?_
          refine s_end ?_
          refine WP_r rfl ?_
          refine s_val rfl (x_move (by conv => lhs; whnf)) ?_
          refine s_val rfl (x_move (by conv => lhs; whnf)) ?_
          refine s_val rfl (x_muli rfl rfl (by omega)) ?_
          refine s_val rfl (x_addi rfl rfl (by omega)) ?_
          refine s_call rfl (by kernel_rfl) (Get_calls (H.rd (i := 4) rfl) (10 + 2 * (k : Int)) 2 (by decide)) rfl rfl ?_
          rintro _ w_ ⟨rfl, e_⟩; replace e_ := e_.symm; subst e_
          rw [getN_ok (bs := b) (v := 2) (10 + 2 * k) 2 (by omega) rfl (by decide) (by decide) (by omega)]
          refine s_val rfl (x_move (by conv => lhs; whnf)) ?_
          refine s_val rfl (x_extract rfl rfl) ?_
          refine s_val rfl (x_extract rfl rfl) ?_
          refine s_val rfl (x_assign (by conv => lhs; whnf)) ?_
          refine s_val rfl (x_assign (by conv => lhs; whnf)) ?_
          refine s_end ?_
          refine WP_r rfl ?_
          refine s_val rfl (x_load (by kernel_rfl) rfl (by first | assumption | exact H.cell (i := 0) rfl rfl | exact H.cell (i := 1) rfl rfl | exact H.cell (i := 2) rfl rfl | exact H.cell (i := 3) rfl rfl | exact H.cell (i := 4) rfl rfl | exact H.cell (i := 5) rfl rfl | exact H.cell (i := 6) rfl rfl | exact H.cell (i := 7) rfl rfl | exact H.cell (i := 8) rfl rfl | exact H.cell (i := 9) rfl rfl | exact H.cell (i := 10) rfl rfl | exact H.cell (i := 11) rfl rfl)) ?_
          refine s_val rfl (x_load (by kernel_rfl) rfl (by first | assumption | exact H.cell (i := 0) rfl rfl | exact H.cell (i := 1) rfl rfl | exact H.cell (i := 2) rfl rfl | exact H.cell (i := 3) rfl rfl | exact H.cell (i := 4) rfl rfl | exact H.cell (i := 5) rfl rfl | exact H.cell (i := 6) rfl rfl | exact H.cell (i := 7) rfl rfl | exact H.cell (i := 8) rfl rfl | exact H.cell (i := 9) rfl rfl | exact H.cell (i := 10) rfl rfl | exact H.cell (i := 11) rfl rfl)) ?_
          refine s_val rfl (x_addi rfl rfl (by omega)) ?_
          refine s_val rfl (x_move (by conv => lhs; whnf)) ?_
          refine s_val rfl (x_addi rfl rfl (by omega)) ?_
          refine s_call rfl (by kernel_rfl) (Read_calls (h.ext H.ext) (at_ + 1 + (k : Int))) rfl rfl ?_
          rintro _ _ ⟨a74, n74, c74, rfl, H_⟩; replace H := H.more H_; clear H_
          simp only [List.cons_append, List.nil_append] at H
          rw [read_at hoff (by omega) (by omega)] at H ⊢
          dsimp only at H
          rw [show (at_ + 1 + (k : Int)).toNat = at_.toNat + 1 + k by omega] at H
          obtain ⟨_, _, _, hl3⟩ := D.latest_at hok (i := at_.toNat + 1 + k) (by omega)
          have hn74 : n74 = 256 := by have := (H.rd (i := 8) rfl).1; rw [bys_length] at this; omega
          subst hn74
          refine s_val rfl (x_move (by conv => lhs; whnf)) ?_
          refine s_val rfl (x_extract rfl rfl) ?_
          refine s_val rfl (x_extract rfl rfl) ?_
          refine s_val rfl (x_assign (by conv => lhs; whnf)) ?_
          refine s_val rfl (x_assign (by conv => lhs; whnf)) ?_
          refine s_end ?_
          refine WP_meetE (α := Option Addr × Nat × Option Addr × Nat) (fun p => [(3, pp b3), (4, pp b4), (5, pp b5), (6, pp b6), (8, .slice a31 256 c31), (10, pp b10), (56, .int .i64 m), (57, .int .i64 k)])
            (fun p w' => Sat w w' [blk b3 (.cells #[dp d] 25 (0, 0)), blk b4 (.cells #[.int .i64 at_] 3 (0, 0)), blk b5 (.cells #[.int .i64 cap] 3 (0, 0)), blk b6 (.cells [.int .i64 0, .slice none 0 0, .slice none 0 0].toArray 62 (0, 0)), slo 5 1 a31 256 c31 (bys b),
              blk b10 (.cells (lcells (num b 4 4) p.1 (k + 1) p.2.1 p.2.2.1 (256 * k + 256) p.2.2.2).toArray 62 (0, 0)), slo 3 1 p.1 (k + 1) p.2.1 (((List.range k).map fun i => num b (10 + 2 * i) 2).map natV ++ [natV (num b (10 + 2 * k) 2)]), slo 5 1 p.2.2.1 (256 * k + 256) p.2.2.2 (bys ((List.range k).flatMap fun i => x.latest (at_.toNat + 1 + i)) ++ bys (x.latest (at_.toNat + 1 + k)))]) ?_ ?_
          · skip
            refine WP_draw (fun _ => True) (.float 0 (.float 2 (.float 5 (.float 7 (.fork [(1, .fork [(3, .fork [(4, .fork [(6, .float 9 (.fork [(8, .fork [(10, .float 11 (.fork [(12, .done)]))])]))]), (6, .fork [(4, .float 9 (.fork [(8, .fork [(10, .float 11 (.fork [(12, .done)]))])]))])]), (6, .fork [(3, .fork [(4, .float 9 (.fork [(8, .fork [(10, .float 11 (.fork [(12, .done)]))])]))])])]), (3, .fork [(1, .fork [(4, .fork [(6, .float 9 (.fork [(8, .fork [(10, .float 11 (.fork [(12, .done)]))])]))]), (6, .fork [(4, .float 9 (.fork [(8, .fork [(10, .float 11 (.fork [(12, .done)]))])]))])]), (6, .fork [(1, .fork [(4, .float 9 (.fork [(8, .fork [(10, .float 11 (.fork [(12, .done)]))])]))])])]), (6, .fork [(1, .fork [(3, .fork [(4, .float 9 (.fork [(8, .fork [(10, .float 11 (.fork [(12, .done)]))])]))])]), (3, .fork [(1, .fork [(4, .float 9 (.fork [(8, .fork [(10, .float 11 (.fork [(12, .done)]))])]))])])])]))))) (by kernel_rfl) (by kernel_rfl) trivial ?_
            replace H := H.drew
            refine r_val rfl rfl (fun w hI => x_field (off := 1) (by kernel_rfl) rfl) ?_
            refine r_val rfl rfl (fun w hI => x_move (by conv => lhs; whnf)) ?_
            refine r_val rfl rfl (fun w hI => x_field (off := 2) (by kernel_rfl) rfl) ?_
            refine r_val rfl rfl (fun w hI => x_move (by conv => lhs; whnf)) ?_
            refine r_three rfl rfl rfl ?_ ?_ ?_
            · skip
              refine s_val rfl (x_load (by kernel_rfl) rfl (by first | assumption | exact H.cell (i := 0) rfl rfl | exact H.cell (i := 1) rfl rfl | exact H.cell (i := 2) rfl rfl | exact H.cell (i := 3) rfl rfl | exact H.cell (i := 4) rfl rfl | exact H.cell (i := 5) rfl rfl | exact H.cell (i := 6) rfl rfl | exact H.cell (i := 7) rfl rfl | exact H.cell (i := 8) rfl rfl | exact H.cell (i := 9) rfl rfl | exact H.cell (i := 10) rfl rfl | exact H.cell (i := 11) rfl rfl)) ?_
              refine s_end ?_
              refine ⟨trivial, ?_⟩
              refine r_two rfl rfl ?_ ?_
              · skip
                refine s_buildSliceE (vs := [_]) rfl (show SlT Tryd.prog 22 3 1 8 from ⟨by kernel_rfl, by kernel_rfl⟩) (show ∃ z, ZeroT Tryd.prog 3 z ∧ z.cells.size = 1 from ⟨_, (show ZeroT Tryd.prog 3 (.int .i64 0) by unfold ZeroT; kernel_rfl), rfl⟩) rfl ⟨(by conv => lhs; whnf), trivial⟩ rfl (by simp [Value.cells]) (by decide) H ?_
                clear H; intro b80 _ H
                simp only [List.cons_append, List.nil_append, List.flatMap_cons, List.flatMap_nil, Value.cells, List.append_nil] at H
                refine s_end ?_
                refine ⟨trivial, ?_⟩
                refine r_two rfl rfl ?_ ?_
                · skip
                  refine s_append rfl (show SlT Tryd.prog 22 3 1 8 from ⟨by kernel_rfl, by kernel_rfl⟩) (show ∃ z, ZeroT Tryd.prog 3 z ∧ z.cells.size = 1 from ⟨_, (show ZeroT Tryd.prog 3 (.int .i64 0) by unfold ZeroT; kernel_rfl), rfl⟩) ⟨_, (show SlT Tryd.prog 22 3 1 8 from ⟨by kernel_rfl, by kernel_rfl⟩).und⟩ rfl rfl H (i := 6) rfl (H.rd (i := 9) rfl) (by first | exact bys_oneCell _ | (intro u hu; simp at hu; rcases hu with rfl | rfl | rfl | rfl <;> rfl) | (intro u hu; simp at hu; subst hu; rfl) | (intro u hu; obtain ⟨_, _, rfl⟩ := List.mem_map.1 hu; rfl)) (by omega) (by omega) ?_
                  clear H; intro a81 c81 _ H
                  simp only [List.set_cons_zero, List.set_cons_succ] at H
                  refine s_end ?_
                  refine ⟨trivial, ?_⟩
                  refine r_one rfl ?_
                  refine s_val rfl (x_load (by kernel_rfl) rfl (by first | assumption | exact H.cell (i := 0) rfl rfl | exact H.cell (i := 1) rfl rfl | exact H.cell (i := 2) rfl rfl | exact H.cell (i := 3) rfl rfl | exact H.cell (i := 4) rfl rfl | exact H.cell (i := 5) rfl rfl | exact H.cell (i := 6) rfl rfl | exact H.cell (i := 7) rfl rfl | exact H.cell (i := 8) rfl rfl | exact H.cell (i := 9) rfl rfl | exact H.cell (i := 10) rfl rfl | exact H.cell (i := 11) rfl rfl)) ?_
                  refine s_end ?_
                  refine ⟨trivial, ?_⟩
                  refine r_val rfl rfl (fun w hI => x_field (off := 1) (by kernel_rfl) rfl) ?_
                  refine r_one rfl ?_
                  refine s_append rfl (show SlT Tryd.prog 44 5 1 1 from ⟨by kernel_rfl, by kernel_rfl⟩) (show ∃ z, ZeroT Tryd.prog 5 z ∧ z.cells.size = 1 from ⟨_, (show ZeroT Tryd.prog 5 (.int .u8 0) by unfold ZeroT; kernel_rfl), rfl⟩) ⟨_, (show SlT Tryd.prog 44 5 1 1 from ⟨by kernel_rfl, by kernel_rfl⟩).und⟩ rfl rfl H (i := 7) rfl (H.rd (i := 8) rfl) (by first | exact bys_oneCell _ | (intro u hu; simp at hu; rcases hu with rfl | rfl | rfl | rfl <;> rfl) | (intro u hu; simp at hu; subst hu; rfl) | (intro u hu; obtain ⟨_, _, rfl⟩ := List.mem_map.1 hu; rfl)) (by omega) (by omega) ?_
                  clear H; intro a85 c85 _ H
                  simp only [List.set_cons_zero, List.set_cons_succ] at H
                  refine s_end ?_
                  refine ⟨trivial, ?_⟩
                  refine r_one rfl ?_
                  refine s_store rfl (by kernel_rfl) rfl (by conv => lhs; whnf) rfl H (i := 5) rfl rfl ?_
                  clear H; intro _ H
                  simp only [List.set_cons_zero, List.set_cons_succ, List.setIfInBounds_toArray] at H
                  refine s_end ?_
                  refine ⟨trivial, ?_⟩
                  refine r_val rfl rfl (fun w hI => x_field (off := 2) (by kernel_rfl) rfl) ?_
                  refine r_one rfl ?_
                  refine s_store rfl (by kernel_rfl) rfl (by conv => lhs; whnf) rfl H (i := 5) rfl rfl ?_
                  clear H; intro _ H
                  simp only [List.set_cons_zero, List.set_cons_succ, List.setIfInBounds_toArray] at H
                  refine s_end ?_
                  refine ⟨trivial, ?_⟩
                  refine r_done ?_
                  exact thenQ_meet (a81, c81, a85, c85) ⟨rfl, rfl, rfl, rfl, rfl, rfl, rfl, rfl, trivial⟩ (H.re 0 8 [0, 1, 2, 3, 4, 5, 6, 7, 8, 9] (by kernel_rfl))
                · skip
                  refine s_val rfl (x_load (by kernel_rfl) rfl (by first | assumption | exact H.cell (i := 0) rfl rfl | exact H.cell (i := 1) rfl rfl | exact H.cell (i := 2) rfl rfl | exact H.cell (i := 3) rfl rfl | exact H.cell (i := 4) rfl rfl | exact H.cell (i := 5) rfl rfl | exact H.cell (i := 6) rfl rfl | exact H.cell (i := 7) rfl rfl | exact H.cell (i := 8) rfl rfl | exact H.cell (i := 9) rfl rfl | exact H.cell (i := 10) rfl rfl | exact H.cell (i := 11) rfl rfl)) ?_
                  refine s_end ?_
                  refine ⟨trivial, ?_⟩
                  refine r_one rfl ?_
                  refine s_append rfl (show SlT Tryd.prog 22 3 1 8 from ⟨by kernel_rfl, by kernel_rfl⟩) (show ∃ z, ZeroT Tryd.prog 3 z ∧ z.cells.size = 1 from ⟨_, (show ZeroT Tryd.prog 3 (.int .i64 0) by unfold ZeroT; kernel_rfl), rfl⟩) ⟨_, (show SlT Tryd.prog 22 3 1 8 from ⟨by kernel_rfl, by kernel_rfl⟩).und⟩ rfl rfl H (i := 6) rfl (H.rd (i := 9) rfl) (by first | exact bys_oneCell _ | (intro u hu; simp at hu; rcases hu with rfl | rfl | rfl | rfl <;> rfl) | (intro u hu; simp at hu; subst hu; rfl) | (intro u hu; obtain ⟨_, _, rfl⟩ := List.mem_map.1 hu; rfl)) (by omega) (by omega) ?_
                  clear H; intro a81 c81 _ H
                  simp only [List.set_cons_zero, List.set_cons_succ] at H
                  refine s_end ?_
                  refine ⟨trivial, ?_⟩
                  refine r_val rfl rfl (fun w hI => x_field (off := 1) (by kernel_rfl) rfl) ?_
                  refine r_one rfl ?_
                  refine s_append rfl (show SlT Tryd.prog 44 5 1 1 from ⟨by kernel_rfl, by kernel_rfl⟩) (show ∃ z, ZeroT Tryd.prog 5 z ∧ z.cells.size = 1 from ⟨_, (show ZeroT Tryd.prog 5 (.int .u8 0) by unfold ZeroT; kernel_rfl), rfl⟩) ⟨_, (show SlT Tryd.prog 44 5 1 1 from ⟨by kernel_rfl, by kernel_rfl⟩).und⟩ rfl rfl H (i := 7) rfl (H.rd (i := 8) rfl) (by first | exact bys_oneCell _ | (intro u hu; simp at hu; rcases hu with rfl | rfl | rfl | rfl <;> rfl) | (intro u hu; simp at hu; subst hu; rfl) | (intro u hu; obtain ⟨_, _, rfl⟩ := List.mem_map.1 hu; rfl)) (by omega) (by omega) ?_
                  clear H; intro a85 c85 _ H
                  simp only [List.set_cons_zero, List.set_cons_succ] at H
                  refine s_end ?_
                  refine ⟨trivial, ?_⟩
                  refine r_one rfl ?_
                  refine s_store rfl (by kernel_rfl) rfl (by conv => lhs; whnf) rfl H (i := 5) rfl rfl ?_
                  clear H; intro _ H
                  simp only [List.set_cons_zero, List.set_cons_succ, List.setIfInBounds_toArray] at H
                  refine s_end ?_
                  refine ⟨trivial, ?_⟩
                  refine r_val rfl rfl (fun w hI => x_field (off := 2) (by kernel_rfl) rfl) ?_
                  refine r_one rfl ?_
                  refine s_store rfl (by kernel_rfl) rfl (by conv => lhs; whnf) rfl H (i := 5) rfl rfl ?_
                  clear H; intro _ H
                  simp only [List.set_cons_zero, List.set_cons_succ, List.setIfInBounds_toArray] at H
                  refine s_end ?_
                  refine ⟨trivial, ?_⟩
                  refine r_done ?_
                  exact thenQ_meet (a81, c81, a85, c85) ⟨rfl, rfl, rfl, rfl, rfl, rfl, rfl, rfl, trivial⟩ (H.re 0 8 [0, 1, 2, 3, 4, 5, 6, 7, 8, 9] (by kernel_rfl))
              · skip
                refine s_val rfl (x_load (by kernel_rfl) rfl (by first | assumption | exact H.cell (i := 0) rfl rfl | exact H.cell (i := 1) rfl rfl | exact H.cell (i := 2) rfl rfl | exact H.cell (i := 3) rfl rfl | exact H.cell (i := 4) rfl rfl | exact H.cell (i := 5) rfl rfl | exact H.cell (i := 6) rfl rfl | exact H.cell (i := 7) rfl rfl | exact H.cell (i := 8) rfl rfl | exact H.cell (i := 9) rfl rfl | exact H.cell (i := 10) rfl rfl | exact H.cell (i := 11) rfl rfl)) ?_
                refine s_end ?_
                refine ⟨trivial, ?_⟩
                refine r_one rfl ?_
                refine s_buildSliceE (vs := [_]) rfl (show SlT Tryd.prog 22 3 1 8 from ⟨by kernel_rfl, by kernel_rfl⟩) (show ∃ z, ZeroT Tryd.prog 3 z ∧ z.cells.size = 1 from ⟨_, (show ZeroT Tryd.prog 3 (.int .i64 0) by unfold ZeroT; kernel_rfl), rfl⟩) rfl ⟨(by conv => lhs; whnf), trivial⟩ rfl (by simp [Value.cells]) (by decide) H ?_
                clear H; intro b80 _ H
                simp only [List.cons_append, List.nil_append, List.flatMap_cons, List.flatMap_nil, Value.cells, List.append_nil] at H
                refine s_end ?_
                refine ⟨trivial, ?_⟩
                refine r_one rfl ?_
                refine s_append rfl (show SlT Tryd.prog 22 3 1 8 from ⟨by kernel_rfl, by kernel_rfl⟩) (show ∃ z, ZeroT Tryd.prog 3 z ∧ z.cells.size = 1 from ⟨_, (show ZeroT Tryd.prog 3 (.int .i64 0) by unfold ZeroT; kernel_rfl), rfl⟩) ⟨_, (show SlT Tryd.prog 22 3 1 8 from ⟨by kernel_rfl, by kernel_rfl⟩).und⟩ rfl rfl H (i := 6) rfl (H.rd (i := 9) rfl) (by first | exact bys_oneCell _ | (intro u hu; simp at hu; rcases hu with rfl | rfl | rfl | rfl <;> rfl) | (intro u hu; simp at hu; subst hu; rfl) | (intro u hu; obtain ⟨_, _, rfl⟩ := List.mem_map.1 hu; rfl)) (by omega) (by omega) ?_
                clear H; intro a81 c81 _ H
                simp only [List.set_cons_zero, List.set_cons_succ] at H
                refine s_end ?_
                refine ⟨trivial, ?_⟩
                refine r_val rfl rfl (fun w hI => x_field (off := 1) (by kernel_rfl) rfl) ?_
                refine r_one rfl ?_
                refine s_append rfl (show SlT Tryd.prog 44 5 1 1 from ⟨by kernel_rfl, by kernel_rfl⟩) (show ∃ z, ZeroT Tryd.prog 5 z ∧ z.cells.size = 1 from ⟨_, (show ZeroT Tryd.prog 5 (.int .u8 0) by unfold ZeroT; kernel_rfl), rfl⟩) ⟨_, (show SlT Tryd.prog 44 5 1 1 from ⟨by kernel_rfl, by kernel_rfl⟩).und⟩ rfl rfl H (i := 7) rfl (H.rd (i := 8) rfl) (by first | exact bys_oneCell _ | (intro u hu; simp at hu; rcases hu with rfl | rfl | rfl | rfl <;> rfl) | (intro u hu; simp at hu; subst hu; rfl) | (intro u hu; obtain ⟨_, _, rfl⟩ := List.mem_map.1 hu; rfl)) (by omega) (by omega) ?_
                clear H; intro a85 c85 _ H
                simp only [List.set_cons_zero, List.set_cons_succ] at H
                refine s_end ?_
                refine ⟨trivial, ?_⟩
                refine r_one rfl ?_
                refine s_store rfl (by kernel_rfl) rfl (by conv => lhs; whnf) rfl H (i := 5) rfl rfl ?_
                clear H; intro _ H
                simp only [List.set_cons_zero, List.set_cons_succ, List.setIfInBounds_toArray] at H
                refine s_end ?_
                refine ⟨trivial, ?_⟩
                refine r_val rfl rfl (fun w hI => x_field (off := 2) (by kernel_rfl) rfl) ?_
                refine r_one rfl ?_
                refine s_store rfl (by kernel_rfl) rfl (by conv => lhs; whnf) rfl H (i := 5) rfl rfl ?_
                clear H; intro _ H
                simp only [List.set_cons_zero, List.set_cons_succ, List.setIfInBounds_toArray] at H
                refine s_end ?_
                refine ⟨trivial, ?_⟩
                refine r_done ?_
                exact thenQ_meet (a81, c81, a85, c85) ⟨rfl, rfl, rfl, rfl, rfl, rfl, rfl, rfl, trivial⟩ (H.re 0 8 [0, 1, 2, 3, 4, 5, 6, 7, 8, 9] (by kernel_rfl))
            · skip
              refine s_buildSliceE (vs := [_]) rfl (show SlT Tryd.prog 22 3 1 8 from ⟨by kernel_rfl, by kernel_rfl⟩) (show ∃ z, ZeroT Tryd.prog 3 z ∧ z.cells.size = 1 from ⟨_, (show ZeroT Tryd.prog 3 (.int .i64 0) by unfold ZeroT; kernel_rfl), rfl⟩) rfl ⟨(by conv => lhs; whnf), trivial⟩ rfl (by simp [Value.cells]) (by decide) H ?_
              clear H; intro b80 _ H
              simp only [List.cons_append, List.nil_append, List.flatMap_cons, List.flatMap_nil, Value.cells, List.append_nil] at H
              refine s_end ?_
              refine ⟨trivial, ?_⟩
              refine r_two rfl rfl ?_ ?_
              · skip
                refine s_val rfl (x_load (by kernel_rfl) rfl (by first | assumption | exact H.cell (i := 0) rfl rfl | exact H.cell (i := 1) rfl rfl | exact H.cell (i := 2) rfl rfl | exact H.cell (i := 3) rfl rfl | exact H.cell (i := 4) rfl rfl | exact H.cell (i := 5) rfl rfl | exact H.cell (i := 6) rfl rfl | exact H.cell (i := 7) rfl rfl | exact H.cell (i := 8) rfl rfl | exact H.cell (i := 9) rfl rfl | exact H.cell (i := 10) rfl rfl | exact H.cell (i := 11) rfl rfl)) ?_
                refine s_end ?_
                refine ⟨trivial, ?_⟩
                refine r_two rfl rfl ?_ ?_
                · skip
                  refine s_append rfl (show SlT Tryd.prog 22 3 1 8 from ⟨by kernel_rfl, by kernel_rfl⟩) (show ∃ z, ZeroT Tryd.prog 3 z ∧ z.cells.size = 1 from ⟨_, (show ZeroT Tryd.prog 3 (.int .i64 0) by unfold ZeroT; kernel_rfl), rfl⟩) ⟨_, (show SlT Tryd.prog 22 3 1 8 from ⟨by kernel_rfl, by kernel_rfl⟩).und⟩ rfl rfl H (i := 6) rfl (H.rd (i := 9) rfl) (by first | exact bys_oneCell _ | (intro u hu; simp at hu; rcases hu with rfl | rfl | rfl | rfl <;> rfl) | (intro u hu; simp at hu; subst hu; rfl) | (intro u hu; obtain ⟨_, _, rfl⟩ := List.mem_map.1 hu; rfl)) (by omega) (by omega) ?_
                  clear H; intro a81 c81 _ H
                  simp only [List.set_cons_zero, List.set_cons_succ] at H
                  refine s_end ?_
                  refine ⟨trivial, ?_⟩
                  refine r_one rfl ?_
                  refine s_val rfl (x_load (by kernel_rfl) rfl (by first | assumption | exact H.cell (i := 0) rfl rfl | exact H.cell (i := 1) rfl rfl | exact H.cell (i := 2) rfl rfl | exact H.cell (i := 3) rfl rfl | exact H.cell (i := 4) rfl rfl | exact H.cell (i := 5) rfl rfl | exact H.cell (i := 6) rfl rfl | exact H.cell (i := 7) rfl rfl | exact H.cell (i := 8) rfl rfl | exact H.cell (i := 9) rfl rfl | exact H.cell (i := 10) rfl rfl | exact H.cell (i := 11) rfl rfl)) ?_
                  refine s_end ?_
                  refine ⟨trivial, ?_⟩
                  refine r_val rfl rfl (fun w hI => x_field (off := 1) (by kernel_rfl) rfl) ?_
                  refine r_one rfl ?_
                  refine s_append rfl (show SlT Tryd.prog 44 5 1 1 from ⟨by kernel_rfl, by kernel_rfl⟩) (show ∃ z, ZeroT Tryd.prog 5 z ∧ z.cells.size = 1 from ⟨_, (show ZeroT Tryd.prog 5 (.int .u8 0) by unfold ZeroT; kernel_rfl), rfl⟩) ⟨_, (show SlT Tryd.prog 44 5 1 1 from ⟨by kernel_rfl, by kernel_rfl⟩).und⟩ rfl rfl H (i := 7) rfl (H.rd (i := 8) rfl) (by first | exact bys_oneCell _ | (intro u hu; simp at hu; rcases hu with rfl | rfl | rfl | rfl <;> rfl) | (intro u hu; simp at hu; subst hu; rfl) | (intro u hu; obtain ⟨_, _, rfl⟩ := List.mem_map.1 hu; rfl)) (by omega) (by omega) ?_
                  clear H; intro a85 c85 _ H
                  simp only [List.set_cons_zero, List.set_cons_succ] at H
                  refine s_end ?_
                  refine ⟨trivial, ?_⟩
                  refine r_one rfl ?_
                  refine s_store rfl (by kernel_rfl) rfl (by conv => lhs; whnf) rfl H (i := 5) rfl rfl ?_
                  clear H; intro _ H
                  simp only [List.set_cons_zero, List.set_cons_succ, List.setIfInBounds_toArray] at H
                  refine s_end ?_
                  refine ⟨trivial, ?_⟩
                  refine r_val rfl rfl (fun w hI => x_field (off := 2) (by kernel_rfl) rfl) ?_
                  refine r_one rfl ?_
                  refine s_store rfl (by kernel_rfl) rfl (by conv => lhs; whnf) rfl H (i := 5) rfl rfl ?_
                  clear H; intro _ H
                  simp only [List.set_cons_zero, List.set_cons_succ, List.setIfInBounds_toArray] at H
                  refine s_end ?_
                  refine ⟨trivial, ?_⟩
                  refine r_done ?_
                  exact thenQ_meet (a81, c81, a85, c85) ⟨rfl, rfl, rfl, rfl, rfl, rfl, rfl, rfl, trivial⟩ (H.re 0 8 [0, 1, 2, 3, 4, 5, 6, 7, 8, 9] (by kernel_rfl))
                · skip
                  refine s_val rfl (x_load (by kernel_rfl) rfl (by first | assumption | exact H.cell (i := 0) rfl rfl | exact H.cell (i := 1) rfl rfl | exact H.cell (i := 2) rfl rfl | exact H.cell (i := 3) rfl rfl | exact H.cell (i := 4) rfl rfl | exact H.cell (i := 5) rfl rfl | exact H.cell (i := 6) rfl rfl | exact H.cell (i := 7) rfl rfl | exact H.cell (i := 8) rfl rfl | exact H.cell (i := 9) rfl rfl | exact H.cell (i := 10) rfl rfl | exact H.cell (i := 11) rfl rfl)) ?_
                  refine s_end ?_
                  refine ⟨trivial, ?_⟩
                  refine r_one rfl ?_
                  refine s_append rfl (show SlT Tryd.prog 22 3 1 8 from ⟨by kernel_rfl, by kernel_rfl⟩) (show ∃ z, ZeroT Tryd.prog 3 z ∧ z.cells.size = 1 from ⟨_, (show ZeroT Tryd.prog 3 (.int .i64 0) by unfold ZeroT; kernel_rfl), rfl⟩) ⟨_, (show SlT Tryd.prog 22 3 1 8 from ⟨by kernel_rfl, by kernel_rfl⟩).und⟩ rfl rfl H (i := 6) rfl (H.rd (i := 9) rfl) (by first | exact bys_oneCell _ | (intro u hu; simp at hu; rcases hu with rfl | rfl | rfl | rfl <;> rfl) | (intro u hu; simp at hu; subst hu; rfl) | (intro u hu; obtain ⟨_, _, rfl⟩ := List.mem_map.1 hu; rfl)) (by omega) (by omega) ?_
                  clear H; intro a81 c81 _ H
                  simp only [List.set_cons_zero, List.set_cons_succ] at H
                  refine s_end ?_
                  refine ⟨trivial, ?_⟩
                  refine r_val rfl rfl (fun w hI => x_field (off := 1) (by kernel_rfl) rfl) ?_
                  refine r_one rfl ?_
                  refine s_append rfl (show SlT Tryd.prog 44 5 1 1 from ⟨by kernel_rfl, by kernel_rfl⟩) (show ∃ z, ZeroT Tryd.prog 5 z ∧ z.cells.size = 1 from ⟨_, (show ZeroT Tryd.prog 5 (.int .u8 0) by unfold ZeroT; kernel_rfl), rfl⟩) ⟨_, (show SlT Tryd.prog 44 5 1 1 from ⟨by kernel_rfl, by kernel_rfl⟩).und⟩ rfl rfl H (i := 7) rfl (H.rd (i := 8) rfl) (by first | exact bys_oneCell _ | (intro u hu; simp at hu; rcases hu with rfl | rfl | rfl | rfl <;> rfl) | (intro u hu; simp at hu; subst hu; rfl) | (intro u hu; obtain ⟨_, _, rfl⟩ := List.mem_map.1 hu; rfl)) (by omega) (by omega) ?_
                  clear H; intro a85 c85 _ H
                  simp only [List.set_cons_zero, List.set_cons_succ] at H
                  refine s_end ?_
                  refine ⟨trivial, ?_⟩
                  refine r_one rfl ?_
                  refine s_store rfl (by kernel_rfl) rfl (by conv => lhs; whnf) rfl H (i := 5) rfl rfl ?_
                  clear H; intro _ H
                  simp only [List.set_cons_zero, List.set_cons_succ, List.setIfInBounds_toArray] at H
                  refine s_end ?_
                  refine ⟨trivial, ?_⟩
                  refine r_val rfl rfl (fun w hI => x_field (off := 2) (by kernel_rfl) rfl) ?_
                  refine r_one rfl ?_
                  refine s_store rfl (by kernel_rfl) rfl (by conv => lhs; whnf) rfl H (i := 5) rfl rfl ?_
                  clear H; intro _ H
                  simp only [List.set_cons_zero, List.set_cons_succ, List.setIfInBounds_toArray] at H
                  refine s_end ?_
                  refine ⟨trivial, ?_⟩
                  refine r_done ?_
                  exact thenQ_meet (a81, c81, a85, c85) ⟨rfl, rfl, rfl, rfl, rfl, rfl, rfl, rfl, trivial⟩ (H.re 0 8 [0, 1, 2, 3, 4, 5, 6, 7, 8, 9] (by kernel_rfl))
              · skip
                refine s_val rfl (x_load (by kernel_rfl) rfl (by first | assumption | exact H.cell (i := 0) rfl rfl | exact H.cell (i := 1) rfl rfl | exact H.cell (i := 2) rfl rfl | exact H.cell (i := 3) rfl rfl | exact H.cell (i := 4) rfl rfl | exact H.cell (i := 5) rfl rfl | exact H.cell (i := 6) rfl rfl | exact H.cell (i := 7) rfl rfl | exact H.cell (i := 8) rfl rfl | exact H.cell (i := 9) rfl rfl | exact H.cell (i := 10) rfl rfl | exact H.cell (i := 11) rfl rfl)) ?_
                refine s_end ?_
                refine ⟨trivial, ?_⟩
                refine r_one rfl ?_
                refine s_val rfl (x_load (by kernel_rfl) rfl (by first | assumption | exact H.cell (i := 0) rfl rfl | exact H.cell (i := 1) rfl rfl | exact H.cell (i := 2) rfl rfl | exact H.cell (i := 3) rfl rfl | exact H.cell (i := 4) rfl rfl | exact H.cell (i := 5) rfl rfl | exact H.cell (i := 6) rfl rfl | exact H.cell (i := 7) rfl rfl | exact H.cell (i := 8) rfl rfl | exact H.cell (i := 9) rfl rfl | exact H.cell (i := 10) rfl rfl | exact H.cell (i := 11) rfl rfl)) ?_
                refine s_end ?_
                refine ⟨trivial, ?_⟩
                refine r_one rfl ?_
                refine s_append rfl (show SlT Tryd.prog 22 3 1 8 from ⟨by kernel_rfl, by kernel_rfl⟩) (show ∃ z, ZeroT Tryd.prog 3 z ∧ z.cells.size = 1 from ⟨_, (show ZeroT Tryd.prog 3 (.int .i64 0) by unfold ZeroT; kernel_rfl), rfl⟩) ⟨_, (show SlT Tryd.prog 22 3 1 8 from ⟨by kernel_rfl, by kernel_rfl⟩).und⟩ rfl rfl H (i := 6) rfl (H.rd (i := 9) rfl) (by first | exact bys_oneCell _ | (intro u hu; simp at hu; rcases hu with rfl | rfl | rfl | rfl <;> rfl) | (intro u hu; simp at hu; subst hu; rfl) | (intro u hu; obtain ⟨_, _, rfl⟩ := List.mem_map.1 hu; rfl)) (by omega) (by omega) ?_
                clear H; intro a81 c81 _ H
                simp only [List.set_cons_zero, List.set_cons_succ] at H
                refine s_end ?_
                refine ⟨trivial, ?_⟩
                refine r_val rfl rfl (fun w hI => x_field (off := 1) (by kernel_rfl) rfl) ?_
                refine r_one rfl ?_
                refine s_append rfl (show SlT Tryd.prog 44 5 1 1 from ⟨by kernel_rfl, by kernel_rfl⟩) (show ∃ z, ZeroT Tryd.prog 5 z ∧ z.cells.size = 1 from ⟨_, (show ZeroT Tryd.prog 5 (.int .u8 0) by unfold ZeroT; kernel_rfl), rfl⟩) ⟨_, (show SlT Tryd.prog 44 5 1 1 from ⟨by kernel_rfl, by kernel_rfl⟩).und⟩ rfl rfl H (i := 7) rfl (H.rd (i := 8) rfl) (by first | exact bys_oneCell _ | (intro u hu; simp at hu; rcases hu with rfl | rfl | rfl | rfl <;> rfl) | (intro u hu; simp at hu; subst hu; rfl) | (intro u hu; obtain ⟨_, _, rfl⟩ := List.mem_map.1 hu; rfl)) (by omega) (by omega) ?_
                clear H; intro a85 c85 _ H
                simp only [List.set_cons_zero, List.set_cons_succ] at H
                refine s_end ?_
                refine ⟨trivial, ?_⟩
                refine r_one rfl ?_
                refine s_store rfl (by kernel_rfl) rfl (by conv => lhs; whnf) rfl H (i := 5) rfl rfl ?_
                clear H; intro _ H
                simp only [List.set_cons_zero, List.set_cons_succ, List.setIfInBounds_toArray] at H
                refine s_end ?_
                refine ⟨trivial, ?_⟩
                refine r_val rfl rfl (fun w hI => x_field (off := 2) (by kernel_rfl) rfl) ?_
                refine r_one rfl ?_
                refine s_store rfl (by kernel_rfl) rfl (by conv => lhs; whnf) rfl H (i := 5) rfl rfl ?_
                clear H; intro _ H
                simp only [List.set_cons_zero, List.set_cons_succ, List.setIfInBounds_toArray] at H
                refine s_end ?_
                refine ⟨trivial, ?_⟩
                refine r_done ?_
                exact thenQ_meet (a81, c81, a85, c85) ⟨rfl, rfl, rfl, rfl, rfl, rfl, rfl, rfl, trivial⟩ (H.re 0 8 [0, 1, 2, 3, 4, 5, 6, 7, 8, 9] (by kernel_rfl))
            · skip
              refine s_val rfl (x_load (by kernel_rfl) rfl (by first | assumption | exact H.cell (i := 0) rfl rfl | exact H.cell (i := 1) rfl rfl | exact H.cell (i := 2) rfl rfl | exact H.cell (i := 3) rfl rfl | exact H.cell (i := 4) rfl rfl | exact H.cell (i := 5) rfl rfl | exact H.cell (i := 6) rfl rfl | exact H.cell (i := 7) rfl rfl | exact H.cell (i := 8) rfl rfl | exact H.cell (i := 9) rfl rfl | exact H.cell (i := 10) rfl rfl | exact H.cell (i := 11) rfl rfl)) ?_
              refine s_end ?_
              refine ⟨trivial, ?_⟩
              refine r_two rfl rfl ?_ ?_
              · skip
                refine s_val rfl (x_load (by kernel_rfl) rfl (by first | assumption | exact H.cell (i := 0) rfl rfl | exact H.cell (i := 1) rfl rfl | exact H.cell (i := 2) rfl rfl | exact H.cell (i := 3) rfl rfl | exact H.cell (i := 4) rfl rfl | exact H.cell (i := 5) rfl rfl | exact H.cell (i := 6) rfl rfl | exact H.cell (i := 7) rfl rfl | exact H.cell (i := 8) rfl rfl | exact H.cell (i := 9) rfl rfl | exact H.cell (i := 10) rfl rfl | exact H.cell (i := 11) rfl rfl)) ?_
                refine s_end ?_
                refine ⟨trivial, ?_⟩
                refine r_one rfl ?_
                refine s_buildSliceE (vs := [_]) rfl (show SlT Tryd.prog 22 3 1 8 from ⟨by kernel_rfl, by kernel_rfl⟩) (show ∃ z, ZeroT Tryd.prog 3 z ∧ z.cells.size = 1 from ⟨_, (show ZeroT Tryd.prog 3 (.int .i64 0) by unfold ZeroT; kernel_rfl), rfl⟩) rfl ⟨(by conv => lhs; whnf), trivial⟩ rfl (by simp [Value.cells]) (by decide) H ?_
                clear H; intro b80 _ H
                simp only [List.cons_append, List.nil_append, List.flatMap_cons, List.flatMap_nil, Value.cells, List.append_nil] at H
                refine s_end ?_
                refine ⟨trivial, ?_⟩
                refine r_one rfl ?_
                refine s_append rfl (show SlT Tryd.prog 22 3 1 8 from ⟨by kernel_rfl, by kernel_rfl⟩) (show ∃ z, ZeroT Tryd.prog 3 z ∧ z.cells.size = 1 from ⟨_, (show ZeroT Tryd.prog 3 (.int .i64 0) by unfold ZeroT; kernel_rfl), rfl⟩) ⟨_, (show SlT Tryd.prog 22 3 1 8 from ⟨by kernel_rfl, by kernel_rfl⟩).und⟩ rfl rfl H (i := 6) rfl (H.rd (i := 9) rfl) (by first | exact bys_oneCell _ | (intro u hu; simp at hu; rcases hu with rfl | rfl | rfl | rfl <;> rfl) | (intro u hu; simp at hu; subst hu; rfl) | (intro u hu; obtain ⟨_, _, rfl⟩ := List.mem_map.1 hu; rfl)) (by omega) (by omega) ?_
                clear H; intro a81 c81 _ H
                simp only [List.set_cons_zero, List.set_cons_succ] at H
                refine s_end ?_
                refine ⟨trivial, ?_⟩
                refine r_val rfl rfl (fun w hI => x_field (off := 1) (by kernel_rfl) rfl) ?_
                refine r_one rfl ?_
                refine s_append rfl (show SlT Tryd.prog 44 5 1 1 from ⟨by kernel_rfl, by kernel_rfl⟩) (show ∃ z, ZeroT Tryd.prog 5 z ∧ z.cells.size = 1 from ⟨_, (show ZeroT Tryd.prog 5 (.int .u8 0) by unfold ZeroT; kernel_rfl), rfl⟩) ⟨_, (show SlT Tryd.prog 44 5 1 1 from ⟨by kernel_rfl, by kernel_rfl⟩).und⟩ rfl rfl H (i := 7) rfl (H.rd (i := 8) rfl) (by first | exact bys_oneCell _ | (intro u hu; simp at hu; rcases hu with rfl | rfl | rfl | rfl <;> rfl) | (intro u hu; simp at hu; subst hu; rfl) | (intro u hu; obtain ⟨_, _, rfl⟩ := List.mem_map.1 hu; rfl)) (by omega) (by omega) ?_
                clear H; intro a85 c85 _ H
                simp only [List.set_cons_zero, List.set_cons_succ] at H
                refine s_end ?_
                refine ⟨trivial, ?_⟩
                refine r_one rfl ?_
                refine s_store rfl (by kernel_rfl) rfl (by conv => lhs; whnf) rfl H (i := 5) rfl rfl ?_
                clear H; intro _ H
                simp only [List.set_cons_zero, List.set_cons_succ, List.setIfInBounds_toArray] at H
                refine s_end ?_
                refine ⟨trivial, ?_⟩
                refine r_val rfl rfl (fun w hI => x_field (off := 2) (by kernel_rfl) rfl) ?_
                refine r_one rfl ?_
                refine s_store rfl (by kernel_rfl) rfl (by conv => lhs; whnf) rfl H (i := 5) rfl rfl ?_
                clear H; intro _ H
                simp only [List.set_cons_zero, List.set_cons_succ, List.setIfInBounds_toArray] at H
                refine s_end ?_
                refine ⟨trivial, ?_⟩
                refine r_done ?_
                exact thenQ_meet (a81, c81, a85, c85) ⟨rfl, rfl, rfl, rfl, rfl, rfl, rfl, rfl, trivial⟩ (H.re 0 8 [0, 1, 2, 3, 4, 5, 6, 7, 8, 9] (by kernel_rfl))
              · skip
                refine s_buildSliceE (vs := [_]) rfl (show SlT Tryd.prog 22 3 1 8 from ⟨by kernel_rfl, by kernel_rfl⟩) (show ∃ z, ZeroT Tryd.prog 3 z ∧ z.cells.size = 1 from ⟨_, (show ZeroT Tryd.prog 3 (.int .i64 0) by unfold ZeroT; kernel_rfl), rfl⟩) rfl ⟨(by conv => lhs; whnf), trivial⟩ rfl (by simp [Value.cells]) (by decide) H ?_
                clear H; intro b80 _ H
                simp only [List.cons_append, List.nil_append, List.flatMap_cons, List.flatMap_nil, Value.cells, List.append_nil] at H
                refine s_end ?_
                refine ⟨trivial, ?_⟩
                refine r_one rfl ?_
                refine s_val rfl (x_load (by kernel_rfl) rfl (by first | assumption | exact H.cell (i := 0) rfl rfl | exact H.cell (i := 1) rfl rfl | exact H.cell (i := 2) rfl rfl | exact H.cell (i := 3) rfl rfl | exact H.cell (i := 4) rfl rfl | exact H.cell (i := 5) rfl rfl | exact H.cell (i := 6) rfl rfl | exact H.cell (i := 7) rfl rfl | exact H.cell (i := 8) rfl rfl | exact H.cell (i := 9) rfl rfl | exact H.cell (i := 10) rfl rfl | exact H.cell (i := 11) rfl rfl)) ?_
                refine s_end ?_
                refine ⟨trivial, ?_⟩
                refine r_one rfl ?_
                refine s_append rfl (show SlT Tryd.prog 22 3 1 8 from ⟨by kernel_rfl, by kernel_rfl⟩) (show ∃ z, ZeroT Tryd.prog 3 z ∧ z.cells.size = 1 from ⟨_, (show ZeroT Tryd.prog 3 (.int .i64 0) by unfold ZeroT; kernel_rfl), rfl⟩) ⟨_, (show SlT Tryd.prog 22 3 1 8 from ⟨by kernel_rfl, by kernel_rfl⟩).und⟩ rfl rfl H (i := 6) rfl (H.rd (i := 9) rfl) (by first | exact bys_oneCell _ | (intro u hu; simp at hu; rcases hu with rfl | rfl | rfl | rfl <;> rfl) | (intro u hu; simp at hu; subst hu; rfl) | (intro u hu; obtain ⟨_, _, rfl⟩ := List.mem_map.1 hu; rfl)) (by omega) (by omega) ?_
                clear H; intro a81 c81 _ H
                simp only [List.set_cons_zero, List.set_cons_succ] at H
                refine s_end ?_
                refine ⟨trivial, ?_⟩
                refine r_val rfl rfl (fun w hI => x_field (off := 1) (by kernel_rfl) rfl) ?_
                refine r_one rfl ?_
                refine s_append rfl (show SlT Tryd.prog 44 5 1 1 from ⟨by kernel_rfl, by kernel_rfl⟩) (show ∃ z, ZeroT Tryd.prog 5 z ∧ z.cells.size = 1 from ⟨_, (show ZeroT Tryd.prog 5 (.int .u8 0) by unfold ZeroT; kernel_rfl), rfl⟩) ⟨_, (show SlT Tryd.prog 44 5 1 1 from ⟨by kernel_rfl, by kernel_rfl⟩).und⟩ rfl rfl H (i := 7) rfl (H.rd (i := 8) rfl) (by first | exact bys_oneCell _ | (intro u hu; simp at hu; rcases hu with rfl | rfl | rfl | rfl <;> rfl) | (intro u hu; simp at hu; subst hu; rfl) | (intro u hu; obtain ⟨_, _, rfl⟩ := List.mem_map.1 hu; rfl)) (by omega) (by omega) ?_
                clear H; intro a85 c85 _ H
                simp only [List.set_cons_zero, List.set_cons_succ] at H
                refine s_end ?_
                refine ⟨trivial, ?_⟩
                refine r_one rfl ?_
                refine s_store rfl (by kernel_rfl) rfl (by conv => lhs; whnf) rfl H (i := 5) rfl rfl ?_
                clear H; intro _ H
                simp only [List.set_cons_zero, List.set_cons_succ, List.setIfInBounds_toArray] at H
                refine s_end ?_
                refine ⟨trivial, ?_⟩
                refine r_val rfl rfl (fun w hI => x_field (off := 2) (by kernel_rfl) rfl) ?_
                refine r_one rfl ?_
                refine s_store rfl (by kernel_rfl) rfl (by conv => lhs; whnf) rfl H (i := 5) rfl rfl ?_
                clear H; intro _ H
                simp only [List.set_cons_zero, List.set_cons_succ, List.setIfInBounds_toArray] at H
                refine s_end ?_
                refine ⟨trivial, ?_⟩
                refine r_done ?_
                exact thenQ_meet (a81, c81, a85, c85) ⟨rfl, rfl, rfl, rfl, rfl, rfl, rfl, rfl, trivial⟩ (H.re 0 8 [0, 1, 2, 3, 4, 5, 6, 7, 8, 9] (by kernel_rfl))
          · skip
            clear H
            rintro ⟨ia2, hc2, da2, dc2⟩ ρ w9 H
            dsimp only at H ⊢
            refine blockQ_n ?_
            refine thenQ_n ?_
            refine WP_region rfl ?_
            refine s_val rfl (x_addi rfl rfl (by omega)) ?_
            refine s_val rfl (x_move (by conv => lhs; whnf)) ?_
            refine s_end ?_
            refine loopQ_A (ia2, hc2, da2, dc2, k + 1) (by show m - (k + 1) < m - k; omega) ⟨rfl, rfl, rfl, rfl, rfl, rfl, rfl, rfl, trivial⟩ ⟨by show k + 1 ≤ m; omega, ?_⟩
            dsimp only
            rw [List.range_succ, List.map_append, List.map_append, List.flatMap_append, List.map_singleton, List.map_singleton, List.flatMap_cons, List.flatMap_nil, List.append_nil, bys_app, Nat.mul_succ]
            exact H
        · skip
          refine WP_exit ?_
          refine thenQ_e ?_
          refine loopQ_e ?_
          refine blockQ_hit ?_
          have hke : k = m := by omega
          rw [← hke] at hm
          refine thenQ_n ?_
          refine WP_r rfl ?_
          refine s_val rfl (x_makeFuncE (l1 := []) (l2 := [_, _, _]) trivial ⟨(by conv => lhs; whnf), (by conv => lhs; whnf), (by conv => lhs; whnf), trivial⟩) ?_
          refine s_val rfl (x_assign (by conv => lhs; whnf)) ?_
          refine s_end ?_
          refine WP_seq ?_
          refine WP_rd (fun w_ => Sat _ w_ _) (.float 0 (.float 1 (.float 2 (.fork [(3, .float 4 (.float 5 (.float 6 (.fork [(7, .float 8 (.float 9 (.float 10 (.float 11 (.float 12 (.float 13 (.float 14 (.float 15 (.float 16 (.float 18 (.fork [(17, .fork [(19, .float 20 (.float 21 (.float 22 .done)))]), (19, .float 20 (.fork [(17, .float 21 (.float 22 .done))]))])))))))))))]))))])))) (by kernel_rfl) (by kernel_rfl) H.drew ?_
          replace H := H.drew
          refine r_val rfl rfl (fun w hI => x_field (off := 1) (by kernel_rfl) rfl) ?_
          refine r_val rfl rfl (fun w hI => x_load (by kernel_rfl) rfl (by first | assumption | exact hI.cell (i := 0) rfl rfl | exact hI.cell (i := 1) rfl rfl | exact hI.cell (i := 2) rfl rfl | exact hI.cell (i := 3) rfl rfl | exact hI.cell (i := 4) rfl rfl | exact hI.cell (i := 5) rfl rfl | exact hI.cell (i := 6) rfl rfl | exact hI.cell (i := 7) rfl rfl | exact hI.cell (i := 8) rfl rfl | exact hI.cell (i := 9) rfl rfl | exact hI.cell (i := 10) rfl rfl | exact hI.cell (i := 11) rfl rfl)) ?_
          refine r_val rfl rfl (fun w hI => x_move (by conv => lhs; whnf)) ?_
          refine r_one rfl ?_
          refine s_call rfl (by kernel_rfl) (ContainsFunc_calls (p := fun h => decide ((h : Int) ≤ at_ + cap ∨ (x.vals.length : Int) ≤ h)) (H.rd (i := 6) rfl) (by omega) (by kernel_rfl) (cp := [pp b4, pp b5, pp b3]) (fun w' h' e' hm' => out_calls ((h.ext H.ext).heapEq e') ((H.heapEq e').cell (i := 1) rfl rfl) ((H.heapEq e').cell (i := 2) rfl rfl) ((H.heapEq e').cell (i := 0) rfl rfl) h' (by omega))) rfl rfl ?_
          rintro _ _ ⟨rfl, e_⟩; replace H := H.heapEq e_; clear e_
          refine s_end ?_
          refine ⟨H, ?_⟩
          refine r_bool rfl rfl (fun w hI => x_move rfl) (fun h5 => ?_) (fun h5 => ?_)
          · skip
            refine r_out rfl rfl ?_
            refine r_out rfl rfl ?_
            refine r_one rfl ?_
            refine s_out rfl ?_
            refine s_end ?_
            refine ⟨H, ?_⟩
            refine r_out rfl rfl ?_
            refine r_val rfl rfl (fun w hI => x_pick_true rfl (by conv => lhs; whnf)) ?_
            refine r_val rfl rfl (fun w hI => x_move (by conv => lhs; whnf)) ?_
            refine r_out rfl rfl ?_
            refine r_out rfl rfl ?_
            refine r_out rfl rfl ?_
            refine r_out rfl rfl ?_
            refine r_out rfl rfl ?_
            refine r_out rfl rfl ?_
            refine r_out rfl rfl ?_
            refine r_two rfl rfl ?_ ?_
            · skip
              refine s_out rfl ?_
              refine s_end ?_
              refine ⟨H, ?_⟩
              refine r_one rfl ?_
              refine s_out rfl ?_
              refine s_end ?_
              refine ⟨H, ?_⟩
              refine r_out rfl rfl ?_
              refine r_out rfl rfl ?_
              refine r_val rfl rfl (fun w hI => x_pick_true rfl (by conv => lhs; whnf)) ?_
              refine r_done ?_
              refine WP_cond_true rfl ?_
              have hbig2 : x.logged at_ cap = if (D.homesOf b).any (fun h => decide ((h : Int) ≤ at_ + cap ∨ (x.vals.length : Int) ≤ h)) = true ∨ rises (D.homesOf b) = false ∨ hdr (num b 4 4) (D.homesOf b) (x.dataOf at_.toNat b) ≠ b then lgErr 40 else ⟨0, num b 4 4, D.homesOf b, x.dataOf at_.toNat b⟩ := by
                unfold D.logged
                rw [if_neg (not_not_intro hpl), if_neg (not_not_intro he0), hb, if_neg (by omega)]
              have hH : D.homesOf b = (List.range k).map fun i => num b (10 + 2 * i) 2 := by unfold D.homesOf; rw [hm]
              have hD : x.dataOf at_.toNat b = (List.range k).flatMap fun i => x.latest (at_.toNat + 1 + i) := by unfold D.dataOf; rw [hm]
              rw [hH, hD] at hbig2
              refine WP_r rfl ?_
              refine s_val rfl (x_buildE (vs := []) (show StT Tryd.prog 62 #[.int .i64 0, .slice none 0 0, .slice none 0 0] #[(0, 1), (1, 1), (2, 1)] from ⟨by kernel_rfl, by kernel_rfl⟩) trivial (show _ = some [_, _, _] from rfl)) ?_
              refine s_storeAll rfl (n := 3) (by kernel_rfl) rfl rfl rfl (by simp [Value.oneCell']) H (i := 3) rfl rfl ?_
              clear H; intro _ H
              simp only [List.set_cons_zero, List.set_cons_succ] at H
              refine s_val rfl (x_assign (by conv => lhs; whnf)) ?_
              refine s_end ?_
              refine WP_ret ?_
              refine thenQ_r ?_
              refine retQ_c1t1 (n := 3) rfl (by conv => lhs; whnf) (by conv => lhs; whnf) (by kernel_rfl) rfl (fun j u hj => H.cellsAt (i := 3) rfl hj) ?_
              refine hnil _ 40 H.ext ?_
              rw [hbig2, if_pos (by simp_all)]
            · skip
              refine s_out rfl ?_
              refine s_end ?_
              refine ⟨H, ?_⟩
              refine r_out rfl rfl ?_
              refine r_one rfl ?_
              refine s_out rfl ?_
              refine s_end ?_
              refine ⟨H, ?_⟩
              refine r_out rfl rfl ?_
              refine r_val rfl rfl (fun w hI => x_pick_true rfl (by conv => lhs; whnf)) ?_
              refine r_done ?_
              refine WP_cond_true rfl ?_
              have hbig2 : x.logged at_ cap = if (D.homesOf b).any (fun h => decide ((h : Int) ≤ at_ + cap ∨ (x.vals.length : Int) ≤ h)) = true ∨ rises (D.homesOf b) = false ∨ hdr (num b 4 4) (D.homesOf b) (x.dataOf at_.toNat b) ≠ b then lgErr 40 else ⟨0, num b 4 4, D.homesOf b, x.dataOf at_.toNat b⟩ := by
                unfold D.logged
                rw [if_neg (not_not_intro hpl), if_neg (not_not_intro he0), hb, if_neg (by omega)]
              have hH : D.homesOf b = (List.range k).map fun i => num b (10 + 2 * i) 2 := by unfold D.homesOf; rw [hm]
              have hD : x.dataOf at_.toNat b = (List.range k).flatMap fun i => x.latest (at_.toNat + 1 + i) := by unfold D.dataOf; rw [hm]
              rw [hH, hD] at hbig2
              refine WP_r rfl ?_
              refine s_val rfl (x_buildE (vs := []) (show StT Tryd.prog 62 #[.int .i64 0, .slice none 0 0, .slice none 0 0] #[(0, 1), (1, 1), (2, 1)] from ⟨by kernel_rfl, by kernel_rfl⟩) trivial (show _ = some [_, _, _] from rfl)) ?_
              refine s_storeAll rfl (n := 3) (by kernel_rfl) rfl rfl rfl (by simp [Value.oneCell']) H (i := 3) rfl rfl ?_
              clear H; intro _ H
              simp only [List.set_cons_zero, List.set_cons_succ] at H
              refine s_val rfl (x_assign (by conv => lhs; whnf)) ?_
              refine s_end ?_
              refine WP_ret ?_
              refine thenQ_r ?_
              refine retQ_c1t1 (n := 3) rfl (by conv => lhs; whnf) (by conv => lhs; whnf) (by kernel_rfl) rfl (fun j u hj => H.cellsAt (i := 3) rfl hj) ?_
              refine hnil _ 40 H.ext ?_
              rw [hbig2, if_pos (by simp_all)]
          · skip
            refine r_val rfl rfl (fun w hI => x_field (off := 1) (by kernel_rfl) rfl) ?_
            refine r_val rfl rfl (fun w hI => x_load (by kernel_rfl) rfl (by first | assumption | exact hI.cell (i := 0) rfl rfl | exact hI.cell (i := 1) rfl rfl | exact hI.cell (i := 2) rfl rfl | exact hI.cell (i := 3) rfl rfl | exact hI.cell (i := 4) rfl rfl | exact hI.cell (i := 5) rfl rfl | exact hI.cell (i := 6) rfl rfl | exact hI.cell (i := 7) rfl rfl | exact hI.cell (i := 8) rfl rfl | exact hI.cell (i := 9) rfl rfl | exact hI.cell (i := 10) rfl rfl | exact hI.cell (i := 11) rfl rfl)) ?_
            refine r_one rfl ?_
            refine s_call rfl (by kernel_rfl) (rising_calls (H.rd (i := 6) rfl) (by omega)) rfl rfl ?_
            rintro _ _ ⟨rfl, e_⟩; replace H := H.heapEq e_; clear e_
            refine s_end ?_
            refine ⟨H, ?_⟩
            refine r_val rfl rfl (fun w hI => x_not rfl) ?_
            refine r_val rfl rfl (fun w hI => x_pick_false rfl (by conv => lhs; whnf)) ?_
            refine r_bool rfl rfl (fun w hI => x_move rfl) (fun h6 => ?_) (fun h6 => ?_)
            · skip
              refine r_out rfl rfl ?_
              refine r_out rfl rfl ?_
              refine r_out rfl rfl ?_
              refine r_out rfl rfl ?_
              refine r_out rfl rfl ?_
              refine r_out rfl rfl ?_
              refine r_out rfl rfl ?_
              refine r_two rfl rfl ?_ ?_
              · skip
                refine s_out rfl ?_
                refine s_end ?_
                refine ⟨H, ?_⟩
                refine r_one rfl ?_
                refine s_out rfl ?_
                refine s_end ?_
                refine ⟨H, ?_⟩
                refine r_out rfl rfl ?_
                refine r_out rfl rfl ?_
                refine r_val rfl rfl (fun w hI => x_pick_true rfl (by conv => lhs; whnf)) ?_
                refine r_done ?_
                refine WP_cond_true rfl ?_
                have hbig2 : x.logged at_ cap = if (D.homesOf b).any (fun h => decide ((h : Int) ≤ at_ + cap ∨ (x.vals.length : Int) ≤ h)) = true ∨ rises (D.homesOf b) = false ∨ hdr (num b 4 4) (D.homesOf b) (x.dataOf at_.toNat b) ≠ b then lgErr 40 else ⟨0, num b 4 4, D.homesOf b, x.dataOf at_.toNat b⟩ := by
                  unfold D.logged
                  rw [if_neg (not_not_intro hpl), if_neg (not_not_intro he0), hb, if_neg (by omega)]
                have hH : D.homesOf b = (List.range k).map fun i => num b (10 + 2 * i) 2 := by unfold D.homesOf; rw [hm]
                have hD : x.dataOf at_.toNat b = (List.range k).flatMap fun i => x.latest (at_.toNat + 1 + i) := by unfold D.dataOf; rw [hm]
                rw [hH, hD] at hbig2
                refine WP_r rfl ?_
                refine s_val rfl (x_buildE (vs := []) (show StT Tryd.prog 62 #[.int .i64 0, .slice none 0 0, .slice none 0 0] #[(0, 1), (1, 1), (2, 1)] from ⟨by kernel_rfl, by kernel_rfl⟩) trivial (show _ = some [_, _, _] from rfl)) ?_
                refine s_storeAll rfl (n := 3) (by kernel_rfl) rfl rfl rfl (by simp [Value.oneCell']) H (i := 3) rfl rfl ?_
                clear H; intro _ H
                simp only [List.set_cons_zero, List.set_cons_succ] at H
                refine s_val rfl (x_assign (by conv => lhs; whnf)) ?_
                refine s_end ?_
                refine WP_ret ?_
                refine thenQ_r ?_
                refine retQ_c1t1 (n := 3) rfl (by conv => lhs; whnf) (by conv => lhs; whnf) (by kernel_rfl) rfl (fun j u hj => H.cellsAt (i := 3) rfl hj) ?_
                refine hnil _ 40 H.ext ?_
                rw [hbig2, if_pos (by simp_all)]
              · skip
                refine s_out rfl ?_
                refine s_end ?_
                refine ⟨H, ?_⟩
                refine r_out rfl rfl ?_
                refine r_one rfl ?_
                refine s_out rfl ?_
                refine s_end ?_
                refine ⟨H, ?_⟩
                refine r_out rfl rfl ?_
                refine r_val rfl rfl (fun w hI => x_pick_true rfl (by conv => lhs; whnf)) ?_
                refine r_done ?_
                refine WP_cond_true rfl ?_
                have hbig2 : x.logged at_ cap = if (D.homesOf b).any (fun h => decide ((h : Int) ≤ at_ + cap ∨ (x.vals.length : Int) ≤ h)) = true ∨ rises (D.homesOf b) = false ∨ hdr (num b 4 4) (D.homesOf b) (x.dataOf at_.toNat b) ≠ b then lgErr 40 else ⟨0, num b 4 4, D.homesOf b, x.dataOf at_.toNat b⟩ := by
                  unfold D.logged
                  rw [if_neg (not_not_intro hpl), if_neg (not_not_intro he0), hb, if_neg (by omega)]
                have hH : D.homesOf b = (List.range k).map fun i => num b (10 + 2 * i) 2 := by unfold D.homesOf; rw [hm]
                have hD : x.dataOf at_.toNat b = (List.range k).flatMap fun i => x.latest (at_.toNat + 1 + i) := by unfold D.dataOf; rw [hm]
                rw [hH, hD] at hbig2
                refine WP_r rfl ?_
                refine s_val rfl (x_buildE (vs := []) (show StT Tryd.prog 62 #[.int .i64 0, .slice none 0 0, .slice none 0 0] #[(0, 1), (1, 1), (2, 1)] from ⟨by kernel_rfl, by kernel_rfl⟩) trivial (show _ = some [_, _, _] from rfl)) ?_
                refine s_storeAll rfl (n := 3) (by kernel_rfl) rfl rfl rfl (by simp [Value.oneCell']) H (i := 3) rfl rfl ?_
                clear H; intro _ H
                simp only [List.set_cons_zero, List.set_cons_succ] at H
                refine s_val rfl (x_assign (by conv => lhs; whnf)) ?_
                refine s_end ?_
                refine WP_ret ?_
                refine thenQ_r ?_
                refine retQ_c1t1 (n := 3) rfl (by conv => lhs; whnf) (by conv => lhs; whnf) (by kernel_rfl) rfl (fun j u hj => H.cellsAt (i := 3) rfl hj) ?_
                refine hnil _ 40 H.ext ?_
                rw [hbig2, if_pos (by simp_all)]
            · skip
              refine r_val rfl rfl (fun w hI => x_field (off := 0) (by kernel_rfl) rfl) ?_
              refine r_val rfl rfl (fun w hI => x_load (by kernel_rfl) rfl (by first | assumption | exact hI.cell (i := 0) rfl rfl | exact hI.cell (i := 1) rfl rfl | exact hI.cell (i := 2) rfl rfl | exact hI.cell (i := 3) rfl rfl | exact hI.cell (i := 4) rfl rfl | exact hI.cell (i := 5) rfl rfl | exact hI.cell (i := 6) rfl rfl | exact hI.cell (i := 7) rfl rfl | exact hI.cell (i := 8) rfl rfl | exact hI.cell (i := 9) rfl rfl | exact hI.cell (i := 10) rfl rfl | exact hI.cell (i := 11) rfl rfl)) ?_
              refine r_val rfl rfl (fun w hI => x_field (off := 1) (by kernel_rfl) rfl) ?_
              refine r_val rfl rfl (fun w hI => x_load (by kernel_rfl) rfl (by first | assumption | exact hI.cell (i := 0) rfl rfl | exact hI.cell (i := 1) rfl rfl | exact hI.cell (i := 2) rfl rfl | exact hI.cell (i := 3) rfl rfl | exact hI.cell (i := 4) rfl rfl | exact hI.cell (i := 5) rfl rfl | exact hI.cell (i := 6) rfl rfl | exact hI.cell (i := 7) rfl rfl | exact hI.cell (i := 8) rfl rfl | exact hI.cell (i := 9) rfl rfl | exact hI.cell (i := 10) rfl rfl | exact hI.cell (i := 11) rfl rfl)) ?_
              refine r_val rfl rfl (fun w hI => x_field (off := 2) (by kernel_rfl) rfl) ?_
              refine r_val rfl rfl (fun w hI => x_load (by kernel_rfl) rfl (by first | assumption | exact hI.cell (i := 0) rfl rfl | exact hI.cell (i := 1) rfl rfl | exact hI.cell (i := 2) rfl rfl | exact hI.cell (i := 3) rfl rfl | exact hI.cell (i := 4) rfl rfl | exact hI.cell (i := 5) rfl rfl | exact hI.cell (i := 6) rfl rfl | exact hI.cell (i := 7) rfl rfl | exact hI.cell (i := 8) rfl rfl | exact hI.cell (i := 9) rfl rfl | exact hI.cell (i := 10) rfl rfl | exact hI.cell (i := 11) rfl rfl)) ?_
              refine r_val rfl rfl (fun w hI => x_move (by conv => lhs; whnf)) ?_
              refine r_two rfl rfl ?_ ?_
              · skip
                refine s_call rfl (by kernel_rfl) (headed_calls (hh.ext H.ext) (num b 4 4) (by omega) (H.rd (i := 6) rfl) (H.rd (i := 7) rfl) (by omega) (fun h' hm' => by obtain ⟨i, hi, rfl⟩ := List.mem_map.1 hm'; have := List.mem_range.1 hi; exact num_lt (by omega)) (by omega)) rfl rfl ?_
                rintro _ _ ⟨rfl, e_⟩; replace H := H.more (Sat.nil e_); clear e_
                simp only [List.append_nil] at H
                refine s_end ?_
                refine ⟨H, ?_⟩
                refine r_one rfl ?_
                refine s_val rfl (x_arrPtr (m := 256) (e := 5) (by kernel_rfl) rfl (by omega)) ?_
                refine s_end ?_
                refine ⟨H, ?_⟩
                refine r_val rfl rfl (fun w hI => x_loadPB (m := 256) (by kernel_rfl) rfl (hI.rd (i := 4) rfl) rfl (by decide)) ?_
                refine r_val rfl rfl (fun w hI => x_neqBytes (n := 256) (e := 5) (by kernel_rfl) (by kernel_rfl) (by kernel_rfl) (by kernel_rfl) (hdr_len _ _ _ (by rw [List.length_map, List.length_range]; omega)) hbl rfl rfl) ?_
                refine r_val rfl rfl (fun w hI => x_pick_false rfl (by conv => lhs; whnf)) ?_
                refine r_done ?_
                refine WP_cond rfl (fun h7 => ?_) (fun h7 => ?_)
                · skip
                  have hbig2 : x.logged at_ cap = if (D.homesOf b).any (fun h => decide ((h : Int) ≤ at_ + cap ∨ (x.vals.length : Int) ≤ h)) = true ∨ rises (D.homesOf b) = false ∨ hdr (num b 4 4) (D.homesOf b) (x.dataOf at_.toNat b) ≠ b then lgErr 40 else ⟨0, num b 4 4, D.homesOf b, x.dataOf at_.toNat b⟩ := by
                    unfold D.logged
                    rw [if_neg (not_not_intro hpl), if_neg (not_not_intro he0), hb, if_neg (by omega)]
                  have hH : D.homesOf b = (List.range k).map fun i => num b (10 + 2 * i) 2 := by unfold D.homesOf; rw [hm]
                  have hD : x.dataOf at_.toNat b = (List.range k).flatMap fun i => x.latest (at_.toNat + 1 + i) := by unfold D.dataOf; rw [hm]
                  rw [hH, hD] at hbig2
                  refine WP_r rfl ?_
                  refine s_val rfl (x_buildE (vs := []) (show StT Tryd.prog 62 #[.int .i64 0, .slice none 0 0, .slice none 0 0] #[(0, 1), (1, 1), (2, 1)] from ⟨by kernel_rfl, by kernel_rfl⟩) trivial (show _ = some [_, _, _] from rfl)) ?_
                  refine s_storeAll rfl (n := 3) (by kernel_rfl) rfl rfl rfl (by simp [Value.oneCell']) H (i := 3) rfl rfl ?_
                  clear H; intro _ H
                  simp only [List.set_cons_zero, List.set_cons_succ] at H
                  refine s_val rfl (x_assign (by conv => lhs; whnf)) ?_
                  refine s_end ?_
                  refine WP_ret ?_
                  refine thenQ_r ?_
                  refine retQ_c1t1 (n := 3) rfl (by conv => lhs; whnf) (by conv => lhs; whnf) (by kernel_rfl) rfl (fun j u hj => H.cellsAt (i := 3) rfl hj) ?_
                  refine hnil _ 40 H.ext ?_
                  rw [hbig2, if_pos (by simp_all)]
                · skip
                  refine WP_skip ?_
                  refine thenQ_n ?_
                  have hbig2 : x.logged at_ cap = if (D.homesOf b).any (fun h => decide ((h : Int) ≤ at_ + cap ∨ (x.vals.length : Int) ≤ h)) = true ∨ rises (D.homesOf b) = false ∨ hdr (num b 4 4) (D.homesOf b) (x.dataOf at_.toNat b) ≠ b then lgErr 40 else ⟨0, num b 4 4, D.homesOf b, x.dataOf at_.toNat b⟩ := by
                    unfold D.logged
                    rw [if_neg (not_not_intro hpl), if_neg (not_not_intro he0), hb, if_neg (by omega)]
                  have hH : D.homesOf b = (List.range k).map fun i => num b (10 + 2 * i) 2 := by unfold D.homesOf; rw [hm]
                  have hD : x.dataOf at_.toNat b = (List.range k).flatMap fun i => x.latest (at_.toNat + 1 + i) := by unfold D.dataOf; rw [hm]
                  rw [hH, hD] at hbig2
                  refine WP_r rfl ?_
                  refine s_val rfl (x_loadB (by kernel_rfl) rfl H (i := 5) rfl rfl) ?_
                  refine s_storeAll rfl (n := 3) (by kernel_rfl) rfl rfl rfl (lcells_one _ _ _ _ _ _ _) H (i := 3) rfl rfl ?_
                  clear H; intro _ H
                  simp only [List.set_cons_zero, List.set_cons_succ] at H
                  refine s_val rfl (x_assign (by conv => lhs; whnf)) ?_
                  refine s_end ?_
                  refine WP_ret ?_
                  refine retQ_c1t1 (n := 3) rfl (by conv => lhs; whnf) (by conv => lhs; whnf) (by kernel_rfl) rfl (fun j u hj => H.cellsAt (i := 3) rfl hj) ?_
                  have e : x.logged at_ cap = ⟨0, num b 4 4, (List.range k).map fun i => num b (10 + 2 * i) 2, (List.range k).flatMap fun i => x.latest (at_.toNat + 1 + i)⟩ := by rw [hbig2, if_neg (by simp_all)]
                  rw [e]
                  exact ⟨ia, k, hc, da, 256 * k, dc, rfl, H.re 0 2 [6, 7, 0, 1, 2, 3, 4, 5] (by kernel_rfl)⟩
              · skip
                refine s_val rfl (x_arrPtr (m := 256) (e := 5) (by kernel_rfl) rfl (by omega)) ?_
                refine s_end ?_
                refine ⟨H, ?_⟩
                refine r_val rfl rfl (fun w hI => x_loadPB (m := 256) (by kernel_rfl) rfl (hI.rd (i := 4) rfl) rfl (by decide)) ?_
                refine r_one rfl ?_
                refine s_call rfl (by kernel_rfl) (headed_calls (hh.ext H.ext) (num b 4 4) (by omega) (H.rd (i := 6) rfl) (H.rd (i := 7) rfl) (by omega) (fun h' hm' => by obtain ⟨i, hi, rfl⟩ := List.mem_map.1 hm'; have := List.mem_range.1 hi; exact num_lt (by omega)) (by omega)) rfl rfl ?_
                rintro _ _ ⟨rfl, e_⟩; replace H := H.more (Sat.nil e_); clear e_
                simp only [List.append_nil] at H
                refine s_end ?_
                refine ⟨H, ?_⟩
                refine r_val rfl rfl (fun w hI => x_neqBytes (n := 256) (e := 5) (by kernel_rfl) (by kernel_rfl) (by kernel_rfl) (by kernel_rfl) (hdr_len _ _ _ (by rw [List.length_map, List.length_range]; omega)) hbl rfl rfl) ?_
                refine r_val rfl rfl (fun w hI => x_pick_false rfl (by conv => lhs; whnf)) ?_
                refine r_done ?_
                refine WP_cond rfl (fun h8 => ?_) (fun h8 => ?_)
                · skip
                  have hbig2 : x.logged at_ cap = if (D.homesOf b).any (fun h => decide ((h : Int) ≤ at_ + cap ∨ (x.vals.length : Int) ≤ h)) = true ∨ rises (D.homesOf b) = false ∨ hdr (num b 4 4) (D.homesOf b) (x.dataOf at_.toNat b) ≠ b then lgErr 40 else ⟨0, num b 4 4, D.homesOf b, x.dataOf at_.toNat b⟩ := by
                    unfold D.logged
                    rw [if_neg (not_not_intro hpl), if_neg (not_not_intro he0), hb, if_neg (by omega)]
                  have hH : D.homesOf b = (List.range k).map fun i => num b (10 + 2 * i) 2 := by unfold D.homesOf; rw [hm]
                  have hD : x.dataOf at_.toNat b = (List.range k).flatMap fun i => x.latest (at_.toNat + 1 + i) := by unfold D.dataOf; rw [hm]
                  rw [hH, hD] at hbig2
                  refine WP_r rfl ?_
                  refine s_val rfl (x_buildE (vs := []) (show StT Tryd.prog 62 #[.int .i64 0, .slice none 0 0, .slice none 0 0] #[(0, 1), (1, 1), (2, 1)] from ⟨by kernel_rfl, by kernel_rfl⟩) trivial (show _ = some [_, _, _] from rfl)) ?_
                  refine s_storeAll rfl (n := 3) (by kernel_rfl) rfl rfl rfl (by simp [Value.oneCell']) H (i := 3) rfl rfl ?_
                  clear H; intro _ H
                  simp only [List.set_cons_zero, List.set_cons_succ] at H
                  refine s_val rfl (x_assign (by conv => lhs; whnf)) ?_
                  refine s_end ?_
                  refine WP_ret ?_
                  refine thenQ_r ?_
                  refine retQ_c1t1 (n := 3) rfl (by conv => lhs; whnf) (by conv => lhs; whnf) (by kernel_rfl) rfl (fun j u hj => H.cellsAt (i := 3) rfl hj) ?_
                  refine hnil _ 40 H.ext ?_
                  rw [hbig2, if_pos (by simp_all)]
                · skip
                  refine WP_skip ?_
                  refine thenQ_n ?_
                  have hbig2 : x.logged at_ cap = if (D.homesOf b).any (fun h => decide ((h : Int) ≤ at_ + cap ∨ (x.vals.length : Int) ≤ h)) = true ∨ rises (D.homesOf b) = false ∨ hdr (num b 4 4) (D.homesOf b) (x.dataOf at_.toNat b) ≠ b then lgErr 40 else ⟨0, num b 4 4, D.homesOf b, x.dataOf at_.toNat b⟩ := by
                    unfold D.logged
                    rw [if_neg (not_not_intro hpl), if_neg (not_not_intro he0), hb, if_neg (by omega)]
                  have hH : D.homesOf b = (List.range k).map fun i => num b (10 + 2 * i) 2 := by unfold D.homesOf; rw [hm]
                  have hD : x.dataOf at_.toNat b = (List.range k).flatMap fun i => x.latest (at_.toNat + 1 + i) := by unfold D.dataOf; rw [hm]
                  rw [hH, hD] at hbig2
                  refine WP_r rfl ?_
                  refine s_val rfl (x_loadB (by kernel_rfl) rfl H (i := 5) rfl rfl) ?_
                  refine s_storeAll rfl (n := 3) (by kernel_rfl) rfl rfl rfl (lcells_one _ _ _ _ _ _ _) H (i := 3) rfl rfl ?_
                  clear H; intro _ H
                  simp only [List.set_cons_zero, List.set_cons_succ] at H
                  refine s_val rfl (x_assign (by conv => lhs; whnf)) ?_
                  refine s_end ?_
                  refine WP_ret ?_
                  refine retQ_c1t1 (n := 3) rfl (by conv => lhs; whnf) (by conv => lhs; whnf) (by kernel_rfl) rfl (fun j u hj => H.cellsAt (i := 3) rfl hj) ?_
                  have e : x.logged at_ cap = ⟨0, num b 4 4, (List.range k).map fun i => num b (10 + 2 * i) 2, (List.range k).flatMap fun i => x.latest (at_.toNat + 1 + i)⟩ := by rw [hbig2, if_neg (by simp_all)]
                  rw [e]
                  exact ⟨ia, k, hc, da, 256 * k, dc, rfl, H.re 0 2 [6, 7, 0, 1, 2, 3, 4, 5] (by kernel_rfl)⟩
end Go.Sl
