/- The plain laws: bits, and rice's parts -/
import Derived.Test.YtpjbfealfmjddaaGreatDoorA8
import Derived.Test.YtpjbfealfmjddaaGreatDoorF1
set_option maxRecDepth 4000
set_option linter.all false
set_option linter.unusedVariables false
set_option linter.unusedSimpArgs false
namespace Go.Vg

/-- The number that bits are, the greatest one first. -/
def num (l : List Bool) : Nat := l.foldl (fun a b => 2 * a + b.toNat) 0
theorem num_fold (l : List Bool) (a : Nat) : l.foldl (fun a b => 2 * a + b.toNat) a = a * 2 ^ l.length + num l := by
  induction l generalizing a with
  | nil => simp [num]
  | cons x l ih =>
    unfold num
    simp only [List.foldl_cons, List.length_cons]
    rw [ih, ih (2 * 0 + x.toNat), Nat.pow_succ]
    simp only [Nat.mul_zero, Nat.zero_add, Nat.add_mul, Nat.add_assoc]
    congr 1
    rw [Nat.mul_comm 2 a, Nat.mul_assoc, Nat.mul_comm 2]
theorem num_append (l m : List Bool) : num (l ++ m) = num l * 2 ^ m.length + num m := by
  unfold num
  rw [List.foldl_append, num_fold]
  rfl
theorem num_lt (l : List Bool) : num l < 2 ^ l.length := by
  induction l with
  | nil => simp [num]
  | cons x l ih =>
    rw [show x :: l = [x] ++ l from rfl, num_append, List.length_append, Nat.pow_add]
    have : num [x] ≤ 1 := by cases x <;> decide
    have h2 : num [x] * 2 ^ l.length ≤ 1 * 2 ^ l.length := Nat.mul_le_mul_right _ this
    simp only [List.length_singleton, Nat.pow_one]
    omega
/-- The bits of a number, the greatest one first. -/
def bitsOf : Nat → Nat → List Bool
  | 0, _ => []
  | n + 1, v => bitsOf n (v / 2) ++ [v % 2 == 1]
theorem bitsOf_length (n v : Nat) : (bitsOf n v).length = n := by
  induction n generalizing v with
  | zero => rfl
  | succ n ih => simp [bitsOf, ih]
theorem num_bitsOf (n v : Nat) : num (bitsOf n v) = v % 2 ^ n := by
  induction n generalizing v with
  | zero => simp [bitsOf, num, Nat.mod_one]
  | succ n ih =>
    rw [bitsOf, num_append, ih]
    have h : num [v % 2 == 1] = v % 2 := by
      rcases Nat.mod_two_eq_zero_or_one v with h | h <;> rw [h] <;> rfl
    rw [h, List.length_singleton, Nat.pow_one, Nat.pow_succ, Nat.mul_comm (2 ^ n) 2, Nat.mod_mul]
    omega
theorem bitsOf_add (k m v : Nat) : bitsOf (k + m) v = bitsOf k (v / 2 ^ m) ++ bitsOf m v := by
  induction m generalizing v with
  | zero => simp [bitsOf]
  | succ m ih =>
    rw [← Nat.add_assoc, bitsOf, ih, bitsOf, List.append_assoc, Nat.div_div_eq_div_mul, Nat.pow_succ, Nat.mul_comm (2 ^ m) 2]
theorem bitsOf_num (l : List Bool) : bitsOf l.length (num l) = l := by
  induction h : l.length generalizing l with
  | zero => rw [List.length_eq_zero_iff] at h; subst h; rfl
  | succ n ih =>
    obtain ⟨m, x, rfl⟩ : ∃ m x, l = m ++ [x] := by
      refine ⟨l.dropLast, l.getLast (by intro e; subst e; simp at h), ?_⟩
      rw [List.dropLast_concat_getLast]
    have hm : m.length = n := by simpa using h
    rw [bitsOf, num_append]
    have e : (num m * 2 ^ [x].length + num [x]) / 2 = num m := by
      have : num [x] ≤ 1 := by cases x <;> decide
      simp only [List.length_singleton, Nat.pow_one]
      omega
    have e2 : ((num m * 2 ^ [x].length + num [x]) % 2 == 1) = x := by
      simp only [List.length_singleton, Nat.pow_one]
      cases x
      · have : num [false] = 0 := rfl
        rw [this]; simp
      · have : num [true] = 1 := rfl
        rw [this]; simp [Nat.add_mod]
    rw [e, e2, ih m hm]

end Go.Vg

namespace Go.Vg

theorem i64_id {x : Int} (h1 : -9223372036854775808 ≤ x) (h2 : x ≤ 9223372036854775807) : IntKind.i64.wrap x = x := wrap_id (by rw [has_iff]; simp only [lo, hi]; omega)
theorem and_nat {x y : Nat} (hx : x < 9223372036854775808) (hy : y < 9223372036854775808) : arD .and .i64 (x : Int) (y : Int) = ((x &&& y : Nat) : Int) := by
  have h1 : (BitVec.ofInt IntKind.i64.bits (x : Int) &&& BitVec.ofInt IntKind.i64.bits (y : Int)).toNat = x &&& y := by
    rw [BitVec.ofInt_natCast, BitVec.ofInt_natCast, BitVec.toNat_and, BitVec.toNat_ofNat, BitVec.toNat_ofNat]
    simp only [IntKind.bits]
    rw [Nat.mod_eq_of_lt (by omega), Nat.mod_eq_of_lt (by omega)]
  simp only [arD, h1]
  have : x &&& y ≤ x := Nat.and_le_left
  exact i64_id (by omega) (by omega)
theorem shl_nat {x s : Nat} (h : x * 2 ^ s < 9223372036854775808) (hs : s ≤ 64) : shD .shl .i64 (x : Int) (s : Int) = ((x * 2 ^ s : Nat) : Int) := by
  simp only [shD, IntKind.bits, Int.toNat_natCast]
  rw [Nat.min_eq_left hs]
  have : (x : Int) * 2 ^ s = ((x * 2 ^ s : Nat) : Int) := by push_cast; rfl
  rw [this]
  exact i64_id (by omega) (by omega)
theorem shr_nat {x s : Nat} (hs : s ≤ 64) : shD .shr .i64 (x : Int) (s : Int) = ((x / 2 ^ s : Nat) : Int) := by
  simp only [shD, IntKind.bits, Int.toNat_natCast]
  rw [Nat.min_eq_left hs]
  have : (2 : Int) ^ s = ((2 ^ s : Nat) : Int) := by push_cast; rfl
  rw [this, Int.fdiv_eq_ediv_of_nonneg _ (Int.natCast_nonneg _)]
  exact (Int.natCast_ediv _ _).symm
theorem tdiv8 (n : Nat) : (n : Int).tdiv 8 = ((n / 8 : Nat) : Int) := rfl
theorem tmod8 (n : Nat) : (n : Int).tmod 8 = ((n % 8 : Nat) : Int) := rfl
theorem or_add {a x s k : Nat} (h : x < 2 ^ k) : (a * 2 ^ (k + s)) ||| (x * 2 ^ s) = a * 2 ^ (k + s) + x * 2 ^ s := by
  have h1 : x * 2 ^ s < 2 ^ (k + s) := by rw [Nat.pow_add]; exact Nat.mul_lt_mul_of_pos_right h (Nat.pow_pos (by omega))
  rw [← Nat.shiftLeft_eq, ← Nat.shiftLeft_add_eq_or_of_lt h1]
end Go.Vg

namespace Go.Vg

end Go.Vg

namespace Go.Vg

/-- The bits of bytes. -/
def bitsB (b : List Int) : List Bool := b.flatMap fun x => bitsOf 8 x.toNat
theorem bitsB_cons (x : Int) (b : List Int) : bitsB (x :: b) = bitsOf 8 x.toNat ++ bitsB b := rfl
theorem bitsB_length (b : List Int) : (bitsB b).length = 8 * b.length := by
  induction b with
  | nil => rfl
  | cons x b ih => rw [bitsB_cons, List.length_append, ih, bitsOf_length, List.length_cons]; omega
theorem bitsB_drop8 (q : Nat) (b : List Int) : (bitsB b).drop (8 * q) = bitsB (b.drop q) := by
  induction q generalizing b with
  | zero => rfl
  | succ q ih =>
    cases b with
    | nil => simp [bitsB]
    | cons x b =>
      rw [bitsB_cons, Nat.mul_succ, Nat.add_comm, ← List.drop_drop, List.drop_left' (by rw [bitsOf_length]), ih]
      rfl
theorem bitsB_in {b : List Int} {p k x : Nat} (hx : b[p / 8]? = some (x : Int)) (h : p % 8 + k ≤ 8) : ((bitsB b).drop p).take k = bitsOf k (x / 2 ^ (8 - p % 8 - k)) := by
  have hq : p / 8 < b.length := by
    rcases Nat.lt_or_ge (p / 8) b.length with h | h
    · exact h
    · rw [List.getElem?_eq_none h] at hx; cases hx
  rw [List.getElem?_eq_getElem hq, Option.some.injEq] at hx
  rw [show (bitsB b).drop p = ((bitsB b).drop (8 * (p / 8))).drop (p % 8) by rw [List.drop_drop]; congr 1; omega]
  rw [bitsB_drop8, List.drop_eq_getElem_cons hq, hx, bitsB_cons, Int.toNat_natCast]
  obtain ⟨s, hs⟩ : ∃ s, 8 = p % 8 + (k + s) := ⟨8 - p % 8 - k, by omega⟩
  have e : 8 - p % 8 - k = s := by omega
  rw [e]
  have hb : bitsOf 8 x = bitsOf (p % 8) (x / 2 ^ (k + s)) ++ (bitsOf k (x / 2 ^ s) ++ bitsOf s x) := by
    rw [← bitsOf_add, ← bitsOf_add, ← hs]
  rw [hb, List.append_assoc, List.drop_left' (by rw [bitsOf_length]), List.append_assoc, List.take_left' (by rw [bitsOf_length])]
theorem or_nat {x y : Nat} (hx : x < 9223372036854775808) (hy : y < 9223372036854775808) : arD .or .i64 (x : Int) (y : Int) = ((x ||| y : Nat) : Int) := by
  have h1 : (BitVec.ofInt IntKind.i64.bits (x : Int) ||| BitVec.ofInt IntKind.i64.bits (y : Int)).toNat = x ||| y := by
    rw [BitVec.ofInt_natCast, BitVec.ofInt_natCast, BitVec.toNat_or, BitVec.toNat_ofNat, BitVec.toNat_ofNat]
    simp only [IntKind.bits]
    rw [Nat.mod_eq_of_lt (by omega), Nat.mod_eq_of_lt (by omega)]
  simp only [arD, h1]
  have : x ||| y < 2 ^ 63 := Nat.or_lt_two_pow (by omega) (by omega)
  exact i64_id (by omega) (by omega)
/-- Bytes are bytes. -/
def Bytes8 (b : List Int) : Prop := ∀ (i : Nat) (x : Int), b[i]? = some x → 0 ≤ x ∧ x < 256

theorem take_spec {b : List Int} {n p : Nat} (hb : Bytes8 b) (hn : n ≤ 48) (h : p + n ≤ 8 * b.length) (hl : b.length < 2 ^ 40) :
    bits_Reader_Take (n : Int) ⟨⟨(p : Int)⟩, b⟩ = some (((num (((bitsB b).drop p).take n) : Nat) : Int), 0, ((p + n : Nat) : Int)) := by
  unfold bits_Reader_Take bits_Reader_Left
  rw [if_neg (by simp; omega)]
  simp only [Option.bind_some]
  have e0 : W ((b.length : Int) * 8) = ((8 * b.length : Nat) : Int) := by rw [W_id (by omega) (by omega)]; omega
  have e1 : W (((8 * b.length : Nat) : Int) - (p : Int)) = ((8 * b.length - p : Nat) : Int) := by rw [W_id (by omega) (by omega)]; omega
  rw [e0, e1, if_neg (by simp; omega)]
  have hbl := bitsB_length b
  refine iter_eq (I := fun a : Int × Int × Int × Int => ∃ m, m ≤ n ∧ a = (((n - m : Nat) : Int), ((num (((bitsB b).drop p).take m) : Nat) : Int), ((p + m : Nat) : Int), ((p + m : Nat) : Int))) (m := fun a => a.1.toNat) _ (fun a ha => ?_) ⟨0, Nat.zero_le _, rfl⟩ (by simp only [Int.toNat_natCast]; exact Nat.lt_of_le_of_lt hn (by decide))
  obtain ⟨m, hm, rfl⟩ := ha
  unfold bits_Reader_Take_L1
  by_cases hlt : m < n
  · left
    rw [if_pos (by simp; omega)]
    simp only [tmod8, tdiv8]
    have e3 : W (8 - (((p + m) % 8 : Nat) : Int)) = ((8 - (p + m) % 8 : Nat) : Int) := by rw [W_id (by omega) (by omega)]; omega
    have hmin : ∀ (c N : Nat), (if (c : Int) < (N : Int) then (c : Int) else (N : Int)) = ((min c N : Nat) : Int) := fun c N => by
      split <;> rename_i h <;> (congr 1; omega)
    rw [e3, hmin]
    generalize hk : min (8 - (p + m) % 8) (n - m) = k
    have hk1 : 1 ≤ k := by omega
    have hk2 : (p + m) % 8 + k ≤ 8 := by omega
    have hk3 : m + k ≤ n := by omega
    have e4 : W (((p + m) / 8 : Nat) : Int) = (((p + m) / 8 : Nat) : Int) := W_id (by omega) (by omega)
    have e5 : W (((8 - (p + m) % 8 : Nat) : Int) - (k : Int)) = ((8 - (p + m) % 8 - k : Nat) : Int) := by rw [W_id (by omega) (by omega)]; omega
    have e6 : W (((n - m : Nat) : Int) - (k : Int)) = ((n - (m + k) : Nat) : Int) := by rw [W_id (by omega) (by omega)]; omega
    have e7 : W (((p + m : Nat) : Int) + (k : Int)) = ((p + (m + k) : Nat) : Int) := by rw [W_id (by omega) (by omega)]; omega
    rw [e4, e5, e6, e7]
    have hi : (p + m) / 8 < b.length := by omega
    obtain ⟨x, hx⟩ : ∃ x : Nat, b[(p + m) / 8]? = some (x : Int) := by
      have := hb _ _ (List.getElem?_eq_getElem hi)
      exact ⟨_, by rw [List.getElem?_eq_getElem hi, Int.toNat_of_nonneg this.1]⟩
    have hx8 : x < 256 := by have := hb _ _ hx; omega
    rw [idx_ok hx]
    simp only [Option.bind_some]
    rw [need_ok (by simp <;> omega), need_ok (by simp <;> omega), need_ok (by simp <;> omega)]
    have p1 : (2 : Nat) ^ k ≤ 256 := Nat.le_trans (Nat.pow_le_pow_right (by omega) (show k ≤ 8 by omega)) (by decide)
    have p0 : 0 < (2 : Nat) ^ k := Nat.pow_pos (by omega)
    have e8 : shD .shl .i64 1 (k : Int) = ((2 ^ k : Nat) : Int) := by
      have := shl_nat (x := 1) (s := k) (by omega) (by omega)
      simpa using this
    have e9 : W (((2 ^ k : Nat) : Int) - 1) = ((2 ^ k - 1 : Nat) : Int) := by rw [W_id (by omega) (by omega)]; omega
    have hd : x / 2 ^ (8 - (p + m) % 8 - k) ≤ x := Nat.div_le_self _ _
    rw [e8, e9, shr_nat (by omega), and_nat (by omega) (by omega), Nat.and_two_pow_sub_one_eq_mod]
    have hbits := bitsB_in hx hk2
    have hnx : ((bitsB b).drop p).take (m + k) = ((bitsB b).drop p).take m ++ bitsOf k (x / 2 ^ (8 - (p + m) % 8 - k)) := by
      rw [List.take_add, List.drop_drop, hbits]
    have hv := num_lt (((bitsB b).drop p).take m)
    have hvl : (((bitsB b).drop p).take m).length = m := by rw [List.length_take, List.length_drop, hbl]; omega
    rw [hvl] at hv
    have hv2 : num (((bitsB b).drop p).take m) * 2 ^ k < 2 ^ (m + k) := by rw [Nat.pow_add]; exact Nat.mul_lt_mul_of_pos_right hv p0
    have hv3 : (2 : Nat) ^ (m + k) ≤ 2 ^ 48 := Nat.pow_le_pow_right (by omega) (by omega)
    have p2 : x / 2 ^ (8 - (p + m) % 8 - k) % 2 ^ k < 2 ^ k := Nat.mod_lt _ p0
    rw [shl_nat (by omega) (by omega), or_nat (by omega) (by omega)]
    have e10 := or_add (a := num (((bitsB b).drop p).take m)) (s := 0) p2
    simp only [Nat.pow_zero, Nat.mul_one, Nat.add_zero] at e10
    rw [e10]
    refine ⟨_, rfl, ⟨m + k, hk3, ?_⟩, ?_⟩
    · rw [hnx, num_append, bitsOf_length, num_bitsOf]
    · simp only [Int.toNat_natCast]; omega
  · right
    obtain rfl : m = n := by omega
    rw [if_neg (by simp)]
    rfl
end Go.Vg

namespace Go.Vg

theorem shr_u8 {x s : Nat} (hs : s ≤ 8) : shD .shr .u8 (x : Int) (s : Int) = ((x / 2 ^ s : Nat) : Int) := by
  simp only [shD, IntKind.bits, Int.toNat_natCast]
  rw [Nat.min_eq_left hs]
  have : (2 : Int) ^ s = ((2 ^ s : Nat) : Int) := by push_cast; rfl
  rw [this, Int.fdiv_eq_ediv_of_nonneg _ (Int.natCast_nonneg _)]
  exact (Int.natCast_ediv _ _).symm
theorem pow_shl {n : Nat} (hn : n ≤ 62) : shD .shl .i64 1 (n : Int) = ((2 ^ n : Nat) : Int) := by
  have h : (2 : Nat) ^ n ≤ 2 ^ 62 := Nat.pow_le_pow_right (by omega) hn
  have := shl_nat (x := 1) (s := n) (by omega) (by omega)
  simpa using this
theorem pow_mask {n : Nat} (hn : n ≤ 62) : W (((2 ^ n : Nat) : Int) - 1) = ((2 ^ n - 1 : Nat) : Int) := by
  have h : (2 : Nat) ^ n ≤ 2 ^ 62 := Nat.pow_le_pow_right (by omega) hn
  have h0 : 0 < (2 : Nat) ^ n := Nat.pow_pos (by omega)
  rw [W_id (by omega) (by omega)]; omega

theorem bitsOf_zero (n : Nat) : bitsOf n 0 = List.replicate n false := by
  induction n with
  | zero => rfl
  | succ n ih => rw [bitsOf, Nat.zero_div, ih, List.replicate_succ']; rfl
theorem bit_spec {q : Int} {b : List Int} {p : Nat} (hb : Bytes8 b) (h : p < 8 * b.length) (hl : b.length < 2 ^ 40) : ∃ v, (bitsB b)[p]? = some v ∧ bits_Reader_bit (p : Int) ⟨⟨q⟩, b⟩ = some (if v = true then 1 else 0) := by
  have hi : p / 8 < b.length := by omega
  obtain ⟨x, hx⟩ : ∃ x : Nat, b[p / 8]? = some (x : Int) := by
    have := hb _ _ (List.getElem?_eq_getElem hi)
    exact ⟨_, by rw [List.getElem?_eq_getElem hi, Int.toNat_of_nonneg this.1]⟩
  have hx8 : x < 256 := by have := hb _ _ hx; omega
  have hbits := bitsB_in (k := 1) hx (by omega)
  have hbl := bitsB_length b
  have hg : (bitsB b)[p]? = some (x / 2 ^ (8 - p % 8 - 1) % 2 == 1) := by
    have h1 : (((bitsB b).drop p).take 1)[0]? = (bitsB b)[p]? := by
      rw [List.getElem?_take_of_lt (by omega), List.getElem?_drop]; rfl
    rw [← h1, hbits]; rfl
  refine ⟨_, hg, ?_⟩
  unfold bits_Reader_bit
  simp only [tmod8, tdiv8]
  have e1 : W ((p / 8 : Nat) : Int) = ((p / 8 : Nat) : Int) := W_id (by omega) (by omega)
  have e2 : W (7 - ((p % 8 : Nat) : Int)) = ((8 - p % 8 - 1 : Nat) : Int) := by rw [W_id (by omega) (by omega)]; omega
  simp only [e1, e2, idx_ok hx, Option.bind_some]
  have hd : x / 2 ^ (8 - p % 8 - 1) ≤ x := Nat.div_le_self _ _
  rw [need_ok (by simp), shr_u8 (by omega), show (1 : Int) = ((1 : Nat) : Int) from rfl, and_nat (by omega) (by omega)]
  rw [show (1 : Nat) = 2 ^ 1 - 1 from rfl, Nat.and_two_pow_sub_one_eq_mod]
  rcases Nat.mod_two_eq_zero_or_one (x / 2 ^ (8 - p % 8 - (2 ^ 1 - 1))) with h | h <;> simp [h]
end Go.Vg

namespace Go.Vg

/-- What a signed number is written as. -/
def sgn (n : Nat) (v : Int) : Nat := (v % (2 : Int) ^ n).toNat
theorem sgn_lt (n : Nat) (v : Int) : sgn n v < 2 ^ n := by
  unfold sgn
  have h0 : (0 : Int) < (2 : Int) ^ n := Int.pow_pos (by decide)
  have h1 := Int.emod_lt_of_pos v h0
  have h2 := Int.emod_nonneg v (Int.ne_of_gt h0)
  have h3 : ((2 ^ n : Nat) : Int) = (2 : Int) ^ n := by push_cast; rfl
  omega
theorem and_mask {n : Nat} (v : Int) (hn : n ≤ 48) : arD .and .i64 v ((2 ^ n - 1 : Nat) : Int) = ((sgn n v : Nat) : Int) := by
  have hp : (2 : Nat) ^ n ≤ 2 ^ 48 := Nat.pow_le_pow_right (by omega) hn
  have h1 : (BitVec.ofInt IntKind.i64.bits v &&& BitVec.ofInt IntKind.i64.bits ((2 ^ n - 1 : Nat) : Int)).toNat = sgn n v := by
    rw [BitVec.ofInt_natCast, BitVec.toNat_and, BitVec.toNat_ofNat, BitVec.toNat_ofInt]
    simp only [IntKind.bits]
    rw [Nat.mod_eq_of_lt (show 2 ^ n - 1 < 2 ^ 64 by omega), Nat.and_two_pow_sub_one_eq_mod]
    unfold sgn
    have h3 : ((2 ^ n : Nat) : Int) = (2 : Int) ^ n := by push_cast; rfl
    have h4 : (2 : Int) ^ n ∣ ((2 ^ 64 : Nat) : Int) := by
      refine ⟨((2 ^ (64 - n) : Nat) : Int), ?_⟩
      rw [← h3, ← Int.natCast_mul, ← Nat.pow_add]
      congr 2
      omega
    have h5 : 0 ≤ v % ((2 ^ 64 : Nat) : Int) := Int.emod_nonneg _ (by decide)
    have h6 := Int.emod_emod_of_dvd v h4
    rw [← h6, ← h3]
    apply Int.ofNat.inj
    have h7 : 0 ≤ v % ((2 ^ 64 : Nat) : Int) % ((2 ^ n : Nat) : Int) := Int.emod_nonneg _ (by have := Nat.pow_pos (n := n) (show 0 < 2 by omega); omega)
    simp only [Int.ofNat_eq_natCast]
    rw [Int.toNat_of_nonneg h7, Int.natCast_emod, Int.toNat_of_nonneg h5]
  simp only [arD, h1]
  have := sgn_lt n v
  exact i64_id (by omega) (by omega)
theorem signed_spec {b : List Int} {n p : Nat} (hb : Bytes8 b) (h1 : 1 ≤ n) (hn : n ≤ 48) (h : p + n ≤ 8 * b.length) (hl : b.length < 2 ^ 40) :
    bits_Reader_Signed (n : Int) ⟨⟨(p : Int)⟩, b⟩ = some ((if num (((bitsB b).drop p).take n) / 2 ^ (n - 1) = 1 then ((num (((bitsB b).drop p).take n) : Nat) : Int) - 2 ^ n else (num (((bitsB b).drop p).take n) : Int)), 0, ((p + n : Nat) : Int)) := by
  unfold bits_Reader_Signed
  rw [take_spec hb hn h hl]
  have hv := num_lt (((bitsB b).drop p).take n)
  have hvl : (((bitsB b).drop p).take n).length = n := by rw [List.length_take, List.length_drop, bitsB_length]; omega
  rw [hvl] at hv
  generalize num (((bitsB b).drop p).take n) = x at *
  have hp : (2 : Nat) ^ n ≤ 2 ^ 48 := Nat.pow_le_pow_right (by omega) (by omega)
  have h3 : ((2 ^ n : Nat) : Int) = (2 : Int) ^ n := by push_cast; rfl
  have e0 : W ((n : Int) - 1) = ((n - 1 : Nat) : Int) := by rw [W_id (by omega) (by omega)]; omega
  simp only [Option.bind_some, e0]
  rw [if_pos (by simp; omega), need_ok (by simp), shr_nat (by omega), pow_shl (by omega)]
  unfold bits_Reader_Signed_K1
  by_cases hx : x / 2 ^ (n - 1) = 1
  · rw [if_pos (by simp [hx]), need_ok (by simp), if_pos hx, ← h3]
    rw [W_id (by omega) (by omega)]
  · rw [if_neg (by simp; exact_mod_cast hx), if_neg hx]

/-- Noughts up to a one. -/
theorem unary_spec {b : List Int} {n p : Nat} {t : List Bool} (hb : Bytes8 b) (h : (bitsB b).drop p = List.replicate n false ++ true :: t) (hl : b.length < 2 ^ 20) (hp : p ≤ 8 * b.length) :
    bits_Reader_Unary ⟨⟨(p : Int)⟩, b⟩ = some ((n : Int), 0, ((p + n + 1 : Nat) : Int)) := by
  have hbl := bitsB_length b
  have hlen : p + n + 1 ≤ 8 * b.length := by
    have := congrArg List.length h
    simp at this
    omega
  have hget : ∀ j, (bitsB b)[p + j]? = (List.replicate n false ++ true :: t)[j]? := fun j => by rw [← h, List.getElem?_drop]
  have e0 : W ((b.length : Int) * 8) = ((8 * b.length : Nat) : Int) := by rw [W_id (by omega) (by omega)]; omega
  unfold bits_Reader_Unary
  refine iter_eq (I := fun a : Int => ∃ m, m ≤ n ∧ a = ((p + m : Nat) : Int)) (m := fun a => 8 * b.length - a.toNat) _ (fun a ha => ?_) ⟨0, Nat.zero_le _, rfl⟩ (Nat.lt_of_le_of_lt (Nat.sub_le _ _) (Nat.lt_of_lt_of_le (show 8 * b.length < 2 ^ 24 by omega) (by decide)))
  obtain ⟨m, hm, rfl⟩ := ha
  have hlim : p + m < 8 * b.length := by omega
  obtain ⟨v, hv, hbit⟩ := bit_spec (q := (p : Int)) hb hlim (by omega)
  rw [hget] at hv
  unfold bits_Reader_Unary_L1
  simp only [e0, tmod8, tdiv8]
  rw [if_pos (by simp; omega)]
  have eW1 : W (((p + m : Nat) : Int) + 1) = ((p + (m + 1) : Nat) : Int) := by rw [W_id (by omega) (by omega)]; omega
  have eW8 : W (((p + m : Nat) : Int) + 8) = ((p + (m + 8) : Nat) : Int) := by rw [W_id (by omega) (by omega)]; omega
  have eD : W (((p + m) / 8 : Nat) : Int) = (((p + m) / 8 : Nat) : Int) := W_id (by omega) (by omega)
  have step1 : ∀ j, m < j → j ≤ n → ∃ a', (some (Sum.inl (β := Int × Int × Int) (((p + j : Nat) : Int)))) = some (Sum.inl a') ∧ (∃ m, m ≤ n ∧ a' = ((p + m : Nat) : Int)) ∧ 8 * b.length - a'.toNat < 8 * b.length - (((p + m : Nat) : Int)).toNat := fun j h1 h2 =>
    ⟨_, rfl, ⟨j, h2, rfl⟩, by simp only [Int.toNat_natCast]; omega⟩
  have done : m = n → bits_Reader_Unary_K1 ⟨⟨(p : Int)⟩, b⟩ ((p + m : Nat) : Int) = some ((n : Int), 0, ((p + n + 1 : Nat) : Int)) := by
    rintro rfl
    unfold bits_Reader_Unary_K1
    simp only [e0]
    rw [if_neg (by simp; omega), eW1, W_id (by omega) (by omega)]
    congr 2
    omega
  have hbitv : (m < n ∧ v = false) ∨ (m = n ∧ v = true) := by
    rcases Nat.lt_or_ge m n with h1 | h1
    · rw [List.getElem?_append_left (by simpa using h1), List.getElem?_replicate, if_pos h1] at hv
      exact .inl ⟨h1, (Option.some.inj hv).symm⟩
    · obtain rfl : m = n := by omega
      rw [List.getElem?_append_right (by simp)] at hv
      simp at hv
      exact .inr ⟨rfl, hv⟩
  have hone : ((bits_Reader_bit ((p + m : Nat) : Int) ⟨⟨(p : Int)⟩, b⟩).bind fun r => if (r == 0) = true then some (Sum.inl (β := Int × Int × Int) (W (((p + m : Nat) : Int) + 1))) else Option.map Sum.inr (bits_Reader_Unary_K1 ⟨⟨(p : Int)⟩, b⟩ ((p + m : Nat) : Int))) = (if m < n then some (Sum.inl (((p + (m + 1) : Nat) : Int))) else some (Sum.inr ((n : Int), 0, ((p + n + 1 : Nat) : Int)))) := by
    rw [hbit]
    rcases hbitv with ⟨h1, rfl⟩ | ⟨h1, rfl⟩
    · rw [if_pos h1]; simp only [Option.bind_some]; rw [eW1]; rfl
    · rw [if_neg (show ¬ m < n by omega), if_pos rfl, Option.bind_some, done h1]; rfl
  have fin : (∃ a', (if m < n then some (Sum.inl (((p + (m + 1) : Nat) : Int))) else some (Sum.inr ((n : Int), (0 : Int), ((p + n + 1 : Nat) : Int)))) = some (.inl a') ∧ (∃ m, m ≤ n ∧ a' = ((p + m : Nat) : Int)) ∧ 8 * b.length - a'.toNat < 8 * b.length - (((p + m : Nat) : Int)).toNat) ∨ (if m < n then some (Sum.inl (((p + (m + 1) : Nat) : Int))) else some (Sum.inr ((n : Int), (0 : Int), ((p + n + 1 : Nat) : Int)))) = some (.inr ((n : Int), 0, ((p + n + 1 : Nat) : Int))) := by
    by_cases h1 : m < n
    · rw [if_pos h1]; exact .inl (step1 (m + 1) (by omega) (by omega))
    · rw [if_neg h1]; exact .inr rfl
  by_cases h8 : (p + m) % 8 = 0
  · rw [if_pos (by simp; omega), eD]
    have hi : (p + m) / 8 < b.length := by omega
    obtain ⟨x, hx⟩ : ∃ x : Nat, b[(p + m) / 8]? = some (x : Int) := by
      have := hb _ _ (List.getElem?_eq_getElem hi)
      exact ⟨_, by rw [List.getElem?_eq_getElem hi, Int.toNat_of_nonneg this.1]⟩
    rw [idx_ok hx]
    simp only [Option.bind_some]
    by_cases hx0 : x = 0
    · subst hx0
      rw [if_pos (by rfl), eW8]
      left
      refine step1 (m + 8) (by omega) ?_
      rcases Nat.lt_or_ge n (m + 8) with h9 | h9
      · exfalso
        have h10 := bitsB_in (k := 8) hx (by omega)
        rw [Nat.zero_div, bitsOf_zero] at h10
        have h11 : (((bitsB b).drop (p + m)).take 8)[n - m]? = some true := by
          rw [List.getElem?_take_of_lt (by omega), List.getElem?_drop, show p + m + (n - m) = p + n by omega, hget, List.getElem?_append_right (by simp)]
          simp
        rw [h10, List.getElem?_replicate, if_pos (by omega)] at h11
        cases h11
      · exact h9
    · rw [if_neg (by simp; omega), hone]
      exact fin
  · rw [if_neg (by simp; omega), hone]
    exact fin
end Go.Vg

namespace Go.Vg

theorem drop_more {b : List Bool} {p : Nat} {x t : List Bool} (h : b.drop p = x ++ t) : b.drop (p + x.length) = t := by
  rw [← List.drop_drop, h, List.drop_left]
/-- A residual as a number. -/
def foldN (v : Int) : Nat := if v < 0 then (-2 * v - 1).toNat else (2 * v).toNat
theorem fold_spec {v : Int} (h1 : -4611686018427387904 < v) (h2 : v < 4611686018427387904) : rice_fold v = some ((foldN v : Int), decide (-2147483648 < v) && decide (v < 2147483648)) := by
  unfold rice_fold foldN
  by_cases h : v < 0
  · rw [if_pos (by simpa using h), if_pos h, W_id (x := -2 * v) (by omega) (by omega), W_id (x := -2 * v - 1) (by omega) (by omega)]
    have e1 : (((-2 * v - 1).toNat : Nat) : Int) = -2 * v - 1 := by omega
    have e2 : decide (v < 2147483648) = true := decide_eq_true (by omega)
    rw [e1, e2, Bool.and_true]
  · rw [if_neg (by simpa using h), if_neg h, W_id (x := 2 * v) (by omega) (by omega)]
    have e1 : (((2 * v).toNat : Nat) : Int) = 2 * v := by omega
    have e2 : decide (-2147483648 < v) = true := decide_eq_true (by omega)
    rw [e1, e2, Bool.true_and]
/-- A residual's bits by a parameter. -/
def codeBits (k : Nat) (v : Int) : List Bool := (List.replicate (foldN v / 2 ^ k) false ++ [true]) ++ bitsOf k (foldN v % 2 ^ k)
theorem codeBits_length (k : Nat) (v : Int) : (codeBits k v).length = foldN v / 2 ^ k + 1 + k := by simp [codeBits, bitsOf_length]; omega
end Go.Vg

namespace Go.Vg

/-- May a number be written in so many bits, with its sign? -/
def EscOk (n : Nat) (v : Int) : Prop := (n = 0 ∧ v = 0) ∨ (1 ≤ n ∧ n ≤ 48 ∧ -(2 : Int) ^ (n - 1) ≤ v ∧ v < (2 : Int) ^ (n - 1))
def escBits (n : Nat) (v : Int) : List Bool := bitsOf n (sgn n v)
theorem escBits_length (n : Nat) (v : Int) : (escBits n v).length = n := bitsOf_length _ _
end Go.Vg

namespace Go.Vg

end Go.Vg

namespace Go.Vg

/-- The parameter that says: no parameter. -/
def escN (m : Nat) : Nat := 2 ^ (4 + m) - 1
def PartOk (m : Nat) (par n : Int) (xs : List Int) : Prop :=
  (par = -1 ∧ 0 ≤ n ∧ n ≤ 31 ∧ ∀ v, v ∈ xs → EscOk n.toNat v) ∨ (0 ≤ par ∧ par < escN m ∧ n = 0 ∧ ∀ v, v ∈ xs → -2147483648 < v ∧ v < 2147483648 ∧ foldN v / 2 ^ par.toNat ≤ 65536)
def partBits (m : Nat) (par n : Int) (xs : List Int) : List Bool :=
  if par = -1 then bitsOf (4 + m) (escN m) ++ (bitsOf 5 n.toNat ++ xs.flatMap (escBits n.toNat)) else bitsOf (4 + m) par.toNat ++ xs.flatMap (codeBits par.toNat)
theorem escape_spec {m : Nat} (hm : m ≤ 1) : rice_escape (m : Int) = some (escN m : Int) := by
  rcases (show m = 0 ∨ m = 1 by omega) with rfl | rfl <;> decide
theorem escN_lt (m : Nat) : escN m < 2 ^ (4 + m) := by
  have := Nat.pow_pos (n := 4 + m) (show 0 < 2 by omega)
  unfold escN; omega
theorem escN_le {m : Nat} (hm : m ≤ 1) : escN m ≤ 31 := by
  rcases (show m = 0 ∨ m = 1 by omega) with rfl | rfl <;> decide
theorem w4 {m : Nat} (hm : m ≤ 1) : W (4 + (m : Int)) = ((4 + m : Nat) : Int) := by rw [W_id (by omega) (by omega)]; omega

end Go.Vg

namespace Go.Vg

/-- A part with all that belongs to it: where it is; its parameter; its escape's bits; its numbers. -/
structure Part where
  e : Int × Arr2 Int
  par : Int
  n : Int
  xs : List Int
def Part.bits (m : Nat) (q : Part) : List Bool := partBits m q.par q.n q.xs

end Go.Vg

namespace Go.Vg

def riceBits (m o : Nat) (qs : List Part) : List Bool := bitsOf 2 m ++ (bitsOf 4 o ++ qs.flatMap (Part.bits m))
end Go.Vg

namespace Go.Vg

theorem fold_flag (v : Int) : ∃ f, rice_fold v = some (f, decide (-2147483648 < v) && decide (v < 2147483648)) := by
  unfold rice_fold
  by_cases h : v < 0
  · rw [if_pos (by simpa using h)]
    have e2 : decide (v < 2147483648) = true := decide_eq_true (by omega)
    exact ⟨_, by rw [e2, Bool.and_true]⟩
  · rw [if_neg (by simpa using h)]
    have e2 : decide (-2147483648 < v) = true := decide_eq_true (by omega)
    exact ⟨_, by rw [e2, Bool.true_and]⟩
theorem one_ok {v par n c : Int} (hp : par = -1 ∨ 0 ≤ par ∧ par ≤ 31) (h : rice_one v par n = some (c, true)) :
    -2147483648 < v ∧ v < 2147483648 ∧ (par = -1 → ∃ w, rice_width v = some w ∧ w ≤ n) ∧ (0 ≤ par → foldN v / 2 ^ par.toNat ≤ 65536) := by
  unfold rice_one at h
  by_cases hv : -2147483648 < v ∧ v < 2147483648
  · refine ⟨hv.1, hv.2, ?_⟩
    rw [fold_spec (by omega) (by omega)] at h
    have e1 : decide (-2147483648 < v) = true := decide_eq_true hv.1
    have e2 : decide (v < 2147483648) = true := decide_eq_true hv.2
    simp only [Option.bind_some, e1, e2] at h
    rw [if_neg (by decide)] at h
    rcases hp with rfl | ⟨h0, h31⟩
    · refine ⟨fun _ => ?_, fun h => by omega⟩
      rw [if_pos (by rfl)] at h
      obtain ⟨w, hw, h⟩ := Option.bind_eq_some_iff.1 h
      refine ⟨w, hw, ?_⟩
      simp only [Option.some.injEq, Prod.mk.injEq, decide_eq_true_eq] at h
      exact h.2
    · refine ⟨fun h => by omega, fun _ => ?_⟩
      obtain ⟨k, rfl⟩ := Int.eq_ofNat_of_zero_le h0
      rw [if_neg (by simp), need_ok (by simp), need_ok (by simp), shr_nat (by omega)] at h
      simp only [Option.some.injEq, Prod.mk.injEq, decide_eq_true_eq] at h
      simp only [Int.toNat_natCast]
      omega
  · exfalso
    obtain ⟨f, hf⟩ := fold_flag v
    rw [hf] at h
    have e : (decide (-2147483648 < v) && decide (v < 2147483648)) = false := by
      rw [Bool.and_eq_false_iff]
      by_cases h1 : -2147483648 < v
      · exact .inr (decide_eq_false fun h2 => hv ⟨h1, h2⟩)
      · exact .inl (decide_eq_false h1)
    simp only [Option.bind_some, e] at h
    rw [if_pos (by decide)] at h
    simp at h
end Go.Vg

namespace Go.Vg

theorem shr1 (x : Int) : shD .shr .i64 x 1 = x / 2 := by
  have : shD .shr .i64 x 1 = x.fdiv 2 := rfl
  rw [this, Int.fdiv_eq_ediv_of_nonneg _ (by decide)]
theorem width_spec {v : Int} (h1 : -2147483648 < v) (h2 : v < 2147483648) : ∃ w, rice_width v = some w ∧ ((w = 0 ∧ v = 0) ∨ ∃ c : Nat, w = (c : Int) + 1 ∧ -(2 : Int) ^ c ≤ v ∧ v < (2 : Int) ^ c) := by
  unfold rice_width
  refine iter_of (I := fun a : Int × Int => ∃ (c : Nat) (x : Int), c ≤ 31 ∧ a = (x, (c : Int)) ∧ (2 : Int) ^ c * x ≤ v ∧ v < (2 : Int) ^ c * (x + 1)) (m := fun a => 40 - a.2.toNat) (Q := fun w => (w = 0 ∧ v = 0) ∨ ∃ c : Nat, w = (c : Int) + 1 ∧ -(2 : Int) ^ c ≤ v ∧ v < (2 : Int) ^ c) (fun a ha => ?_) ⟨0, v, by omega, rfl, by simp, by simp; omega⟩ (show 40 - (0 : Int).toNat < ROUNDS by decide)
  obtain ⟨c, x, hc, rfl, hA, hB⟩ := ha
  have hP : (0 : Int) < (2 : Int) ^ c := Int.pow_pos (by decide)
  unfold rice_width_L1
  by_cases hx : x = 0 ∨ x = -1
  · right
    rw [if_neg (by rcases hx with rfl | rfl <;> simp)]
    unfold rice_width_K1
    by_cases h0 : (c : Int) = 0 ∧ x = 0
    · obtain ⟨hc0, rfl⟩ := h0
      obtain rfl : c = 0 := by omega
      exact ⟨0, rfl, .inl ⟨rfl, by simp at hA hB; omega⟩⟩
    · rw [if_neg]
      · refine ⟨_, rfl, .inr ⟨c, W_id (by omega) (by omega), ?_⟩⟩
        rcases hx with rfl | rfl
        · simp at hA hB; omega
        · simp at hA hB; omega
      · intro h
        split at h
        · rename_i h3
          exact h0 ⟨by simpa using h3, by simpa using h⟩
        · simp at h
  · left
    rw [if_pos (by simp; omega), shr1, W_id (by omega) (by omega)]
    have hx1 : 2 * (x / 2) ≤ x := by omega
    have hx2 : x + 1 ≤ 2 * (x / 2 + 1) := by omega
    have m1 := Int.mul_le_mul_of_nonneg_left hx1 (Int.le_of_lt hP)
    have m2 := Int.mul_le_mul_of_nonneg_left hx2 (Int.le_of_lt hP)
    refine ⟨_, rfl, ⟨c + 1, x / 2, ?_, by simp, ?_, ?_⟩, ?_⟩
    · rcases Nat.lt_or_ge c 31 with h | h
      · omega
      · obtain rfl : c = 31 := by omega
        exfalso
        have e : (2 : Int) ^ 31 = 2147483648 := by decide
        rw [e] at hA hB
        omega
    · rw [Int.pow_succ, Int.mul_assoc]; omega
    · rw [Int.pow_succ, Int.mul_assoc]; omega
    · simp only [Int.toNat_natCast]
      omega
/-- What the width tells: it may be written in so many bits. -/
theorem esc_of_width {v w n : Int} (h1 : -2147483648 < v) (h2 : v < 2147483648) (h : rice_width v = some w) (hn : w ≤ n) (hn31 : n ≤ 31) : EscOk n.toNat v := by
  obtain ⟨w', e, hw⟩ := width_spec h1 h2
  rw [h] at e
  cases e
  rcases hw with ⟨rfl, rfl⟩ | ⟨c, rfl, h3, h4⟩
  · by_cases h0 : n.toNat = 0
    · rw [h0]; exact .inl ⟨rfl, rfl⟩
    · have hP : (0 : Int) < (2 : Int) ^ (n.toNat - 1) := Int.pow_pos (by decide)
      exact .inr ⟨by omega, by omega, by omega, hP⟩
  · have hle : (2 : Nat) ^ c ≤ 2 ^ (n.toNat - 1) := Nat.pow_le_pow_right (by omega) (by omega)
    have e1 : ((2 ^ c : Nat) : Int) = (2 : Int) ^ c := by push_cast; rfl
    have e2 : ((2 ^ (n.toNat - 1) : Nat) : Int) = (2 : Int) ^ (n.toNat - 1) := by push_cast; rfl
    exact .inr ⟨by omega, by omega, by omega, by omega⟩
end Go.Vg

namespace Go.Vg

/-- **A loop that came to an answer**: what holds at each head, and of the answer. -/
theorem iterN_inv {α A : Type} {step : α → Option (α ⊕ A)} (I : α → Prop) (Q : A → Prop) (h1 : ∀ a a', I a → step a = some (.inl a') → I a') (h2 : ∀ a r, I a → step a = some (.inr r) → Q r) :
    ∀ (n : Nat) (a : α) (r : A), I a → iterN step n a = some r → Q r
  | 0, _, _, _, h => nomatch h
  | n + 1, a, r, ha, h => by
    rw [iterN_succ] at h
    match hs : step a, h with
    | some (.inl a'), h => exact iterN_inv I Q h1 h2 n a' r (h1 a a' ha hs) h
    | some (.inr r'), h => cases h; exact h2 a r ha hs
theorem iter_inv {α A : Type} {step : α → Option (α ⊕ A)} (I : α → Prop) (Q : A → Prop) (h1 : ∀ a a', I a → step a = some (.inl a') → I a') (h2 : ∀ a r, I a → step a = some (.inr r) → Q r) {a : α} {r : A} (ha : I a) (h : iter step a = some r) : Q r := iterN_inv I Q h1 h2 _ a r ha h

theorem some_ok {xs : List Int} {par n c : Int} (hl : xs.length < 2 ^ 40) (h : rice_some xs par n = some (c, true)) : ∀ v, v ∈ xs → ∃ d, rice_one v par n = some (d, true) := by
  unfold rice_some at h
  refine iter_inv (I := fun a : Int × Int => ∃ m : Nat, m ≤ xs.length ∧ a.2 = (m : Int) ∧ ∀ i v, i < m → xs[i]? = some v → ∃ d, rice_one v par n = some (d, true)) (Q := fun r : Int × Bool => r.2 = true → ∀ v, v ∈ xs → ∃ d, rice_one v par n = some (d, true)) (fun a a' ha hs => ?_) (fun a r ha hs hr => ?_) ⟨0, Nat.zero_le _, rfl, fun i v hi => absurd hi (Nat.not_lt_zero _)⟩ h rfl
  · obtain ⟨m, hm, e, hall⟩ := ha
    unfold rice_some_L1 at hs
    by_cases hlt : a.2 < (xs.length : Int)
    · rw [if_pos (by simpa using hlt), e] at hs
      have hml : m < xs.length := by omega
      rw [idx_ok (List.getElem?_eq_getElem hml)] at hs
      simp only [Option.bind_some] at hs
      obtain ⟨r4, h4, hs⟩ := Option.bind_eq_some_iff.1 hs
      by_cases hb : r4.2 = true
      · rw [if_neg (by simp [hb])] at hs
        cases hs
        refine ⟨m + 1, hml, ?_, fun i v hi hv => ?_⟩
        · show W ((m : Int) + 1) = _
          rw [W_id (by omega) (by omega)]
          omega
        · rcases Nat.lt_or_ge i m with h5 | h5
          · exact hall i v h5 hv
          · obtain rfl : i = m := by omega
            rw [List.getElem?_eq_getElem hml] at hv
            cases hv
            exact ⟨r4.1, by rw [h4]; exact congrArg some (Prod.ext rfl hb)⟩
      · rw [if_pos (by simp [hb])] at hs
        cases hs
    · rw [if_neg (by simpa using hlt)] at hs
      cases hs
  · obtain ⟨m, hm, e, hall⟩ := ha
    unfold rice_some_L1 at hs
    by_cases hlt : a.2 < (xs.length : Int)
    · rw [if_pos (by simpa using hlt), e] at hs
      have hml : m < xs.length := by omega
      rw [idx_ok (List.getElem?_eq_getElem hml)] at hs
      simp only [Option.bind_some] at hs
      obtain ⟨r4, h4, hs⟩ := Option.bind_eq_some_iff.1 hs
      by_cases hb : r4.2 = true
      · rw [if_neg (by simp [hb])] at hs
        cases hs
      · rw [if_pos (by simp [hb])] at hs
        cases hs
        cases hr
    · intro v hv
      obtain ⟨i, hi, rfl⟩ := List.getElem_of_mem hv
      exact hall i _ (by omega) (List.getElem?_eq_getElem hi)
end Go.Vg

namespace Go.Vg

theorem part_ok {m : Nat} {par n c : Int} {xs : List Int} (hm : m ≤ 1) (hl : xs.length < 2 ^ 40) (hc : (par = -1 ∧ 0 ≤ n ∧ n ≤ 31) ∨ (0 ≤ par ∧ par < escN m ∧ n = 0)) (h : rice_some xs par n = some (c, true)) : PartOk m par n xs := by
  have hE := escN_le hm
  have hall := some_ok hl h
  have hp : par = -1 ∨ 0 ≤ par ∧ par ≤ 31 := by omega
  rcases hc with ⟨rfl, h0, h31⟩ | ⟨h0, h1, rfl⟩
  · refine .inl ⟨rfl, h0, h31, fun v hv => ?_⟩
    obtain ⟨d, hd⟩ := hall v hv
    obtain ⟨a1, a2, a3, _⟩ := one_ok hp hd
    obtain ⟨w, hw, hwn⟩ := a3 rfl
    exact esc_of_width a1 a2 hw hwn h31
  · refine .inr ⟨h0, h1, rfl, fun v hv => ?_⟩
    obtain ⟨d, hd⟩ := hall v hv
    obtain ⟨a1, a2, _, a4⟩ := one_ok hp hd
    exact ⟨a1, a2, a4 h0⟩
/-- What rice.Size's rounds tell of the parts, where its code is 0. -/
theorem size_parts {y0 : rice_Plan} {y2 : List Int} (es : List (Int × Arr2 Int)) (a sz : Int) (h : foldR (rice_Size_L1 y0 y2) rice_Size_K2 rice_Size_K3 es a = some (sz, 0)) :
    ∀ e, e ∈ es → ∃ xs par n c, sub y2 e.2.a0 e.2.a1 = some xs ∧ idx y0.Params e.1 = some par ∧ idx y0.Bits e.1 = some n ∧ rice_some xs par n = some (c, true) := by
  induction es generalizing a with
  | nil => intro e he; cases he
  | cons e0 es ih =>
    intro e he
    rw [foldR] at h
    match hs : rice_Size_L1 y0 y2 e0 a, h with
    | some (.inr q), h =>
      unfold rice_Size_K3 at h
      cases h
    | some (.inl a'), h =>
      rcases List.mem_cons.1 he with rfl | he
      · unfold rice_Size_L1 at hs
        obtain ⟨xs, h1, hs⟩ := Option.bind_eq_some_iff.1 hs
        obtain ⟨par, h2, hs⟩ := Option.bind_eq_some_iff.1 hs
        obtain ⟨n, h3, hs⟩ := Option.bind_eq_some_iff.1 hs
        obtain ⟨r, h4, hs⟩ := Option.bind_eq_some_iff.1 hs
        by_cases hb : r.2 = true
        · exact ⟨xs, par, n, r.1, h1, h2, h3, by rw [h4]; exact congrArg some (Prod.ext rfl hb)⟩
        · rw [if_pos (by simp [hb])] at hs
          cases hs
      · exact ih a' h e he
end Go.Vg

namespace Go.Vg

/-- A plan's parameter and escape's bits, as they may be. -/
def ParOk (m : Nat) (par n : Int) : Prop := (par = -1 ∧ 0 ≤ n ∧ n ≤ 31) ∨ (0 ≤ par ∧ par < escN m ∧ n = 0)
theorem check_L1 {m : Nat} {y0 : rice_Plan} (hm : m ≤ 1) (hM : y0.Method = (m : Int)) {i : Nat} (hi : (i : Int) < (y0.Params.length : Int)) {a' : Int} (h : rice_Check_L1 y0 (i : Int) = some (.inl a')) :
    a' = W ((i : Int) + 1) ∧ ∃ par n, idx y0.Params (i : Int) = some par ∧ idx y0.Bits (i : Int) = some n ∧ ParOk m par n := by
  unfold rice_Check_L1 rice_Check_K3 at h
  rw [if_pos (by simpa using hi)] at h
  obtain ⟨par, h1, h⟩ := Option.bind_eq_some_iff.1 h
  have two : ∀ {x : Option (Int ⊕ Int)}, (x = if decide (par ≥ 0) = true then (rice_escape y0.Method).bind fun r => if decide (par < r) = true then (idx y0.Bits (i : Int)).bind fun p => if (p == 0) = true then some (.inl (W ((i : Int) + 1))) else Option.map .inr (some (10 : Int)) else Option.map .inr (some (10 : Int)) else Option.map .inr (some (10 : Int))) → x = some (.inl a') → a' = W ((i : Int) + 1) ∧ ∃ par n, idx y0.Params (i : Int) = some par ∧ idx y0.Bits (i : Int) = some n ∧ ParOk m par n := by
    intro x hx h
    rw [hx, hM, escape_spec hm] at h
    by_cases c1 : par ≥ 0
    · rw [if_pos (by simpa using c1)] at h
      simp only [Option.bind_some] at h
      by_cases c2 : par < (escN m : Int)
      · rw [if_pos (by simpa using c2)] at h
        obtain ⟨n, h2, h⟩ := Option.bind_eq_some_iff.1 h
        by_cases c3 : n = 0
        · rw [if_pos (by simpa using c3)] at h
          cases h
          exact ⟨rfl, par, n, h1, h2, .inr ⟨c1, c2, c3⟩⟩
        · rw [if_neg (by simpa using c3)] at h
          cases h
      · rw [if_neg (by simpa using c2)] at h
        cases h
    · rw [if_neg (by simpa using c1)] at h
      cases h
  by_cases c0 : par = -1
  · rw [if_pos (by simpa using c0)] at h
    obtain ⟨n, h2, h⟩ := Option.bind_eq_some_iff.1 h
    by_cases c1 : n ≥ 0
    · rw [if_pos (by simpa using c1), h2] at h
      simp only [Option.bind_some] at h
      by_cases c2 : n ≤ 31
      · rw [if_pos (by simpa using c2)] at h
        cases h
        exact ⟨rfl, par, n, h1, h2, .inl ⟨c0, c1, c2⟩⟩
      · rw [if_neg (by simpa using c2)] at h
        refine two ?_ h
        rw [h2]; rfl
    · rw [if_neg (by simpa using c1)] at h
      exact two rfl h
  · rw [if_neg (by simpa using c0)] at h
    exact two rfl h
theorem check_ok {m : Nat} {y0 : rice_Plan} (hm : m ≤ 1) (hM : y0.Method = (m : Int)) (hl : y0.Params.length < 2 ^ 40) (h : iter (rice_Check_L1 y0) 0 = some 0) :
    ∀ i : Nat, i < y0.Params.length → ∃ par n, idx y0.Params (i : Int) = some par ∧ idx y0.Bits (i : Int) = some n ∧ ParOk m par n := by
  refine iter_inv (I := fun a : Int => ∃ k : Nat, k ≤ y0.Params.length ∧ a = (k : Int) ∧ ∀ i : Nat, i < k → ∃ par n, idx y0.Params (i : Int) = some par ∧ idx y0.Bits (i : Int) = some n ∧ ParOk m par n) (Q := fun r : Int => r = 0 → ∀ i : Nat, i < y0.Params.length → ∃ par n, idx y0.Params (i : Int) = some par ∧ idx y0.Bits (i : Int) = some n ∧ ParOk m par n) (fun a a' ha hs => ?_) (fun a r ha hs hr => ?_) ⟨0, Nat.zero_le _, rfl, fun i hi => absurd hi (Nat.not_lt_zero _)⟩ h rfl
  · obtain ⟨k, hk, rfl, hall⟩ := ha
    by_cases hlt : k < y0.Params.length
    · obtain ⟨e, hq⟩ := check_L1 hm hM (by omega) hs
      refine ⟨k + 1, hlt, ?_, fun i hi => ?_⟩
      · rw [e, W_id (by omega) (by omega)]; omega
      · rcases Nat.lt_or_ge i k with h5 | h5
        · exact hall i h5
        · obtain rfl : i = k := by omega
          exact hq
    · unfold rice_Check_L1 at hs
      rw [if_neg (by simp; omega)] at hs
      cases hs
  · obtain ⟨k, hk, rfl, hall⟩ := ha
    by_cases hlt : k < y0.Params.length
    · exfalso
      subst hr
      unfold rice_Check_L1 rice_Check_K3 at hs
      rw [if_pos (by simp; omega)] at hs
      obtain ⟨par, h1, hs⟩ := Option.bind_eq_some_iff.1 hs
      have hE := escape_spec hm
      rw [hM, hE] at hs
      simp only [Option.bind_some] at hs
      cases hB : idx y0.Bits (k : Int) with
      | none => rw [hB] at hs; simp only [Option.bind_none] at hs; (repeat' (split at hs)) <;> cases hs
      | some n => rw [hB] at hs; simp only [Option.bind_some] at hs; (repeat' (split at hs)) <;> cases hs
    · exact fun i hi => hall i (by omega)
end Go.Vg

namespace Go.Vg

theorem parts_upto {α : Type} (xs : List α) (s skip : Nat) (k : Nat) : (List.range k).flatMap (fun i => (xs.drop (i * s - skip)).take (((i + 1) * s - skip) - (i * s - skip))) = xs.take (k * s - skip) := by
  induction k with
  | zero => simp
  | succ k ih =>
    rw [List.range_succ, List.flatMap_append, ih, List.flatMap_cons, List.flatMap_nil, List.append_nil]
    have h : k * s ≤ (k + 1) * s := Nat.mul_le_mul_right _ (Nat.le_succ k)
    rw [← List.take_add]
    congr 1
    omega
theorem parts_all {α : Type} (xs : List α) (s skip n : Nat) (h : xs.length + skip = n * s) : (List.range n).flatMap (fun i => (xs.drop (i * s - skip)).take (((i + 1) * s - skip) - (i * s - skip))) = xs := by
  rw [parts_upto, List.take_of_length_le (by omega)]
end Go.Vg

namespace Go.Vg

end Go.Vg
