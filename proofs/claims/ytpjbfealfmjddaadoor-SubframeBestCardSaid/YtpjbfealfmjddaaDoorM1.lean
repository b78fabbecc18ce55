/- Bits, and rice, written and read: the plain reckoning. -/
import Derived.Test.YtpjbfealfmjddaaDoorA8
import Derived.Test.YtpjbfealfmjddaaDoorF1
set_option maxRecDepth 4000
set_option linter.all false
set_option linter.unusedVariables false
set_option linter.unusedSimpArgs false
namespace Go.Vg

/-- The number that bits are, the greatest one first. -/
def num (l : List Bool) : Nat := l.foldl (fun a b => 2 * a + b.toNat) 0
theorem num_nil : num [] = 0 := rfl
theorem num_fold (l : List Bool) (a : Nat) : l.foldl (fun a b => 2 * a + b.toNat) a = a * 2 ^ l.length + num l := by
  induction l generalizing a with
  | nil => simp [num]
  | cons x l ih =>
    unfold num
    simp only [List.foldl_cons, List.length_cons]
    rw [ih, ih (2 * 0 + x.toNat), Nat.pow_succ]
    simp only [Nat.mul_zero, Nat.zero_add, Nat.add_mul, Nat.add_assoc]
    congr 1
    rw [Nat.mul_comm 2 a, Nat.mul_assoc, Nat.mul_comm 2]
theorem num_append (l m : List Bool) : num (l ++ m) = num l * 2 ^ m.length + num m := by
  unfold num
  rw [List.foldl_append, num_fold]
  rfl
theorem num_lt (l : List Bool) : num l < 2 ^ l.length := by
  induction l with
  | nil => simp [num]
  | cons x l ih =>
    rw [show x :: l = [x] ++ l from rfl, num_append, List.length_append, Nat.pow_add]
    have : num [x] ≤ 1 := by cases x <;> decide
    have h2 : num [x] * 2 ^ l.length ≤ 1 * 2 ^ l.length := Nat.mul_le_mul_right _ this
    simp only [List.length_singleton, Nat.pow_one]
    omega
theorem num_rep (n : Nat) : num (List.replicate n false) = 0 := by
  induction n with
  | zero => rfl
  | succ n ih =>
    rw [List.replicate_succ', num_append, ih]
    simp [num]

/-- The bits of a number, the greatest one first. -/
def bitsOf : Nat → Nat → List Bool
  | 0, _ => []
  | n + 1, v => bitsOf n (v / 2) ++ [v % 2 == 1]
theorem bitsOf_length (n v : Nat) : (bitsOf n v).length = n := by
  induction n generalizing v with
  | zero => rfl
  | succ n ih => simp [bitsOf, ih]
theorem num_bitsOf (n v : Nat) : num (bitsOf n v) = v % 2 ^ n := by
  induction n generalizing v with
  | zero => simp [bitsOf, num, Nat.mod_one]
  | succ n ih =>
    rw [bitsOf, num_append, ih]
    have h : num [v % 2 == 1] = v % 2 := by
      rcases Nat.mod_two_eq_zero_or_one v with h | h <;> rw [h] <;> rfl
    rw [h, List.length_singleton, Nat.pow_one, Nat.pow_succ, Nat.mul_comm (2 ^ n) 2, Nat.mod_mul]
    omega
theorem bitsOf_add (k m v : Nat) : bitsOf (k + m) v = bitsOf k (v / 2 ^ m) ++ bitsOf m v := by
  induction m generalizing v with
  | zero => simp [bitsOf]
  | succ m ih =>
    rw [← Nat.add_assoc, bitsOf, ih, bitsOf, List.append_assoc, Nat.div_div_eq_div_mul, Nat.pow_succ, Nat.mul_comm (2 ^ m) 2]
theorem bitsOf_num (l : List Bool) : bitsOf l.length (num l) = l := by
  induction h : l.length generalizing l with
  | zero => rw [List.length_eq_zero_iff] at h; subst h; rfl
  | succ n ih =>
    obtain ⟨m, x, rfl⟩ : ∃ m x, l = m ++ [x] := by
      refine ⟨l.dropLast, l.getLast (by intro e; subst e; simp at h), ?_⟩
      rw [List.dropLast_concat_getLast]
    have hm : m.length = n := by simpa using h
    rw [bitsOf, num_append]
    have e : (num m * 2 ^ [x].length + num [x]) / 2 = num m := by
      have : num [x] ≤ 1 := by cases x <;> decide
      simp only [List.length_singleton, Nat.pow_one]
      omega
    have e2 : ((num m * 2 ^ [x].length + num [x]) % 2 == 1) = x := by
      simp only [List.length_singleton, Nat.pow_one]
      cases x
      · have : num [false] = 0 := rfl
        rw [this]; simp
      · have : num [true] = 1 := rfl
        rw [this]; simp [Nat.add_mod]
    rw [e, e2, ih m hm]

/-- A byte's bits, with noughts behind. -/
def byteNum (l : List Bool) : Nat := num l * 2 ^ (8 - l.length)
/-- Bits as bytes, with noughts behind the last. -/
def pk (bs : List Bool) : List Int := (List.range ((bs.length + 7) / 8)).map fun k => (byteNum ((bs.drop (8 * k)).take 8) : Int)
theorem pk_length (bs : List Bool) : (pk bs).length = (bs.length + 7) / 8 := by simp [pk]
theorem pk_get (bs : List Bool) (k : Nat) : (pk bs)[k]? = if k < (bs.length + 7) / 8 then some (byteNum ((bs.drop (8 * k)).take 8) : Int) else none := by
  unfold pk
  rw [List.getElem?_map]
  split
  · rw [List.getElem?_range (by assumption)]; rfl
  · rw [List.getElem?_eq_none (by simp; omega)]; rfl
theorem pk_new (bs xs : List Bool) (h : bs.length % 8 = 0) (hx : xs ≠ []) (h8 : xs.length ≤ 8) : pk (bs ++ xs) = pk bs ++ [((num xs * 2 ^ (8 - xs.length) : Nat) : Int)] := by
  have hx1 : 0 < xs.length := List.length_pos_iff.2 hx
  apply List.ext_getElem?
  intro i
  rw [pk_get, List.length_append, List.getElem?_append, pk_length]
  by_cases h1 : i < (bs.length + 7) / 8
  · rw [if_pos (by omega), if_pos h1, pk_get, if_pos h1]
    congr 2
    rw [List.drop_append_of_le_length (by omega), List.take_append_of_le_length (by rw [List.length_drop]; omega)]
  · rw [if_neg h1]
    by_cases h2 : i = (bs.length + 7) / 8
    · rw [if_pos (by omega), h2, Nat.sub_self]
      have e : 8 * ((bs.length + 7) / 8) = bs.length := by omega
      rw [e, List.drop_left, List.take_of_length_le h8]
      rfl
    · rw [if_neg (by omega), List.getElem?_eq_none (by simp; omega)]
theorem pk_more (bs xs : List Bool) (h : 0 < bs.length % 8) (h8 : bs.length % 8 + xs.length ≤ 8) : pk (bs ++ xs) = (pk bs).set (bs.length / 8) ((num (bs.drop (8 * (bs.length / 8))) * 2 ^ (8 - bs.length % 8) + num xs * 2 ^ (8 - bs.length % 8 - xs.length) : Nat) : Int) := by
  apply List.ext_getElem?
  intro i
  rw [pk_get, List.length_append, List.getElem?_set, pk_length]
  have hd : (bs.drop (8 * (bs.length / 8))).length = bs.length % 8 := by rw [List.length_drop]; omega
  by_cases h1 : bs.length / 8 = i
  · subst h1
    rw [if_pos (by omega), if_pos rfl, if_pos (by omega)]
    congr 2
    rw [List.drop_append_of_le_length (by omega), List.take_of_length_le (by rw [List.length_append, hd]; omega)]
    unfold byteNum
    rw [num_append, List.length_append, hd, Nat.add_mul, Nat.mul_assoc, ← Nat.pow_add]
    congr 3
    · omega
    · omega
  · rw [if_neg h1, pk_get]
    by_cases h2 : i < (bs.length + 7) / 8
    · rw [if_pos (by omega), if_pos h2]
      congr 2
      rw [List.drop_append_of_le_length (by omega), List.take_append_of_le_length (by rw [List.length_drop]; omega)]
    · rw [if_neg h2, if_neg (by omega)]
theorem pk_last (bs : List Bool) (h : 0 < bs.length % 8) : (pk bs)[bs.length / 8]? = some ((num (bs.drop (8 * (bs.length / 8))) * 2 ^ (8 - bs.length % 8) : Nat) : Int) := by
  rw [pk_get, if_pos (by omega)]
  have hd : (bs.drop (8 * (bs.length / 8))).length = bs.length % 8 := by rw [List.length_drop]; omega
  rw [List.take_of_length_le (by omega)]
  unfold byteNum
  rw [hd]
end Go.Vg

namespace Go.Vg

theorem u8_id {x : Nat} (h : x < 256) : IntKind.u8.wrap (x : Int) = x := wrap_id (by rw [has_iff]; simp only [lo, hi]; omega)
theorem i64_id {x : Int} (h1 : -9223372036854775808 ≤ x) (h2 : x ≤ 9223372036854775807) : IntKind.i64.wrap x = x := wrap_id (by rw [has_iff]; simp only [lo, hi]; omega)
theorem and_nat {x y : Nat} (hx : x < 9223372036854775808) (hy : y < 9223372036854775808) : arD .and .i64 (x : Int) (y : Int) = ((x &&& y : Nat) : Int) := by
  have h1 : (BitVec.ofInt IntKind.i64.bits (x : Int) &&& BitVec.ofInt IntKind.i64.bits (y : Int)).toNat = x &&& y := by
    rw [BitVec.ofInt_natCast, BitVec.ofInt_natCast, BitVec.toNat_and, BitVec.toNat_ofNat, BitVec.toNat_ofNat]
    simp only [IntKind.bits]
    rw [Nat.mod_eq_of_lt (by omega), Nat.mod_eq_of_lt (by omega)]
  simp only [arD, h1]
  have : x &&& y ≤ x := Nat.and_le_left
  exact i64_id (by omega) (by omega)
theorem or_nat8 {x y : Nat} (hx : x < 256) (hy : y < 256) : arD .or .u8 (x : Int) (y : Int) = ((x ||| y : Nat) : Int) := by
  have h1 : (BitVec.ofInt IntKind.u8.bits (x : Int) ||| BitVec.ofInt IntKind.u8.bits (y : Int)).toNat = x ||| y := by
    rw [BitVec.ofInt_natCast, BitVec.ofInt_natCast, BitVec.toNat_or, BitVec.toNat_ofNat, BitVec.toNat_ofNat]
    simp only [IntKind.bits]
    rw [Nat.mod_eq_of_lt (by omega), Nat.mod_eq_of_lt (by omega)]
  simp only [arD, h1]
  have : x ||| y < 2 ^ 8 := Nat.or_lt_two_pow (by omega) (by omega)
  exact u8_id (by omega)
theorem shl_nat {x s : Nat} (h : x * 2 ^ s < 9223372036854775808) (hs : s ≤ 64) : shD .shl .i64 (x : Int) (s : Int) = ((x * 2 ^ s : Nat) : Int) := by
  simp only [shD, IntKind.bits, Int.toNat_natCast]
  rw [Nat.min_eq_left hs]
  have : (x : Int) * 2 ^ s = ((x * 2 ^ s : Nat) : Int) := by push_cast; rfl
  rw [this]
  exact i64_id (by omega) (by omega)
theorem shr_nat {x s : Nat} (hs : s ≤ 64) : shD .shr .i64 (x : Int) (s : Int) = ((x / 2 ^ s : Nat) : Int) := by
  simp only [shD, IntKind.bits, Int.toNat_natCast]
  rw [Nat.min_eq_left hs]
  have : (2 : Int) ^ s = ((2 ^ s : Nat) : Int) := by push_cast; rfl
  rw [this, Int.fdiv_eq_ediv_of_nonneg _ (Int.natCast_nonneg _)]
  exact (Int.natCast_ediv _ _).symm
theorem tdiv8 (n : Nat) : (n : Int).tdiv 8 = ((n / 8 : Nat) : Int) := rfl
theorem tmod8 (n : Nat) : (n : Int).tmod 8 = ((n % 8 : Nat) : Int) := rfl
theorem or_add {a x s k : Nat} (h : x < 2 ^ k) : (a * 2 ^ (k + s)) ||| (x * 2 ^ s) = a * 2 ^ (k + s) + x * 2 ^ s := by
  have h1 : x * 2 ^ s < 2 ^ (k + s) := by rw [Nat.pow_add]; exact Nat.mul_lt_mul_of_pos_right h (Nat.pow_pos (by omega))
  rw [← Nat.shiftLeft_eq, ← Nat.shiftLeft_add_eq_or_of_lt h1]
end Go.Vg

namespace Go.Vg

theorem put_step {v N L k P : Nat} {j2 : List Int} {a : Int × Int × List Int} (h1 : a.1 = (N : Int)) (h2 : a.2.1 = (L : Int)) (hk : 1 ≤ k) (hkN : k ≤ N) (hN : N ≤ 48) (hv : v < 2 ^ 62) (hL : L < 2 ^ 60) (hj : L % 8 + k ≤ 8)
    (hP : j2[L / 8]? = some (((P * 2 ^ (8 - L % 8) : Nat)) : Int)) (hP8 : P < 2 ^ (L % 8)) :
    bits_Writer_put_K2 (v : Int) a j2 (k : Int) = some (.inl (((N - k : Nat) : Int), ((L + k : Nat) : Int), j2.set (L / 8) ((P * 2 ^ (8 - L % 8) + v / 2 ^ (N - k) % 2 ^ k * 2 ^ (8 - L % 8 - k) : Nat) : Int))) := by
  have hlen : L / 8 < j2.length := by
    rcases Nat.lt_or_ge (L / 8) j2.length with h | h
    · exact h
    · rw [List.getElem?_eq_none h] at hP; cases hP
  have hk8 : k ≤ 8 := by omega
  unfold bits_Writer_put_K2
  rw [h1, h2, tdiv8, tmod8]
  have e1 : W (((L / 8 : Nat) : Int)) = ((L / 8 : Nat) : Int) := W_id (by omega) (by omega)
  have e2 : W ((N : Int) - (k : Int)) = ((N - k : Nat) : Int) := by rw [W_id (by omega) (by omega)]; omega
  have e3 : W (8 - ((L % 8 : Nat) : Int)) = ((8 - L % 8 : Nat) : Int) := by rw [W_id (by omega) (by omega)]; omega
  have e4 : W (((8 - L % 8 : Nat) : Int) - (k : Int)) = ((8 - L % 8 - k : Nat) : Int) := by rw [W_id (by omega) (by omega)]; omega
  have e5 : W ((L : Int) + (k : Int)) = ((L + k : Nat) : Int) := by rw [W_id (by omega) (by omega)]; omega
  rw [e1, e2, e3, e4, e5]
  have p1 : (2 : Nat) ^ k ≤ 256 := Nat.le_trans (Nat.pow_le_pow_right (by omega) hk8) (by decide)
  have p0 : 0 < (2 : Nat) ^ k := Nat.pow_pos (by omega)
  have e6 : shD .shl .i64 1 (k : Int) = ((2 ^ k : Nat) : Int) := by
    have := shl_nat (x := 1) (s := k) (by omega) (by omega)
    simpa using this
  have e7 : W (((2 ^ k : Nat) : Int) - 1) = ((2 ^ k - 1 : Nat) : Int) := by rw [W_id (by omega) (by omega)]; omega
  have hd : v / 2 ^ (N - k) ≤ v := Nat.div_le_self _ _
  rw [e6, e7, shr_nat (by omega), and_nat (by omega) (by omega), Nat.and_two_pow_sub_one_eq_mod]
  have p2 : v / 2 ^ (N - k) % 2 ^ k < 2 ^ k := Nat.mod_lt _ p0
  generalize hx : v / 2 ^ (N - k) % 2 ^ k = x at *
  have p3 : x * 2 ^ (8 - L % 8 - k) < 256 := by
    have : x * 2 ^ (8 - L % 8 - k) < 2 ^ k * 2 ^ (8 - L % 8 - k) := Nat.mul_lt_mul_of_pos_right p2 (Nat.pow_pos (by omega))
    rw [← Nat.pow_add] at this
    exact Nat.lt_of_lt_of_le this (Nat.le_trans (Nat.pow_le_pow_right (by omega) (show k + (8 - L % 8 - k) ≤ 8 by omega)) (by decide))
  have p4 : P * 2 ^ (8 - L % 8) < 256 := by
    have : P * 2 ^ (8 - L % 8) < 2 ^ (L % 8) * 2 ^ (8 - L % 8) := Nat.mul_lt_mul_of_pos_right hP8 (Nat.pow_pos (by omega))
    rw [← Nat.pow_add, show L % 8 + (8 - L % 8) = 8 by omega] at this
    exact this
  rw [shl_nat (by omega) (by omega), u8_id p3, idx_ok hP]
  have e8 : P * 2 ^ (8 - L % 8) + x * 2 ^ (8 - L % 8 - k) = P * 2 ^ (8 - L % 8) ||| x * 2 ^ (8 - L % 8 - k) := by
    have := or_add (a := P) (s := 8 - L % 8 - k) p2
    rw [show k + (8 - L % 8 - k) = 8 - L % 8 by omega] at this
    exact this.symm
  simp only [Option.bind_some]
  rw [or_nat8 p4 p3, ← e8]
  rw [need_ok (by simp <;> omega), need_ok (by simp <;> omega), need_ok (by simp <;> omega), need_ok (by simp <;> omega), need_ok (by simp <;> omega), need_ok (by simp <;> omega), need_ok (by simp <;> omega)]
  rfl

/-- The bits that stand, and the next of a number. -/
theorem bits_next {v n m k : Nat} (h : m + k ≤ n) : (bitsOf n v).take (m + k) = (bitsOf n v).take m ++ bitsOf k (v / 2 ^ (n - m - k)) := by
  obtain ⟨q, rfl⟩ : ∃ q, n = m + k + q := ⟨n - (m + k), by omega⟩
  have e : m + k + q - m - k = q := by omega
  rw [e, bitsOf_add, bitsOf_add, Nat.div_div_eq_div_mul, ← Nat.pow_add]
  rw [List.take_append_of_le_length (by simp [bitsOf_length]), List.take_of_length_le (by simp [bitsOf_length])]
  rw [List.append_assoc, List.take_left' (by simp [bitsOf_length])]

theorem put_spec {v n : Nat} (bs : List Bool) (hn : n ≤ 48) (hv : v < 2 ^ n) (hL : bs.length + n < 2 ^ 40) :
    bits_Writer_put (n : Int) (v : Int) (bs.length : Int) (pk bs) = some (((bs ++ bitsOf n v).length : Int), pk (bs ++ bitsOf n v)) := by
  have hv62 : v < 2 ^ 62 := Nat.lt_of_lt_of_le hv (Nat.pow_le_pow_right (by omega) (by omega))
  unfold bits_Writer_put
  refine iter_eq (I := fun a : Int × Int × List Int => ∃ m, m ≤ n ∧ a = (((n - m : Nat) : Int), ((bs.length + m : Nat) : Int), pk (bs ++ (bitsOf n v).take m))) (m := fun a => a.1.toNat) _ (fun a ha => ?_) ⟨0, Nat.zero_le _, by simp⟩ (by simp only [Int.toNat_natCast]; exact Nat.lt_of_le_of_lt hn (by decide))
  obtain ⟨m, hm, rfl⟩ := ha
  by_cases hlt : m < n
  · left
    have key : ∀ k, 1 ≤ k → m + k ≤ n → ∃ a', some (.inl (((n - m - k : Nat) : Int), ((bs.length + m + k : Nat) : Int), pk (bs ++ (bitsOf n v).take (m + k)))) = some (Sum.inl (β := Int × List Int) a') ∧ (∃ m, m ≤ n ∧ a' = (((n - m : Nat) : Int), ((bs.length + m : Nat) : Int), pk (bs ++ (bitsOf n v).take m))) ∧ a'.1.toNat < (((n - m : Nat) : Int)).toNat := by
      intro k hk hmk
      refine ⟨_, rfl, ⟨m + k, hmk, ?_⟩, ?_⟩
      · rw [Nat.sub_sub, Nat.add_assoc]
      · simp only [Int.toNat_natCast]; omega
    have hcl : (bs ++ (bitsOf n v).take m).length = bs.length + m := by simp [bitsOf_length]; omega
    generalize hcur : bs ++ (bitsOf n v).take m = cur at *
    generalize hLL : bs.length + m = L at *
    have hnext : ∀ k, m + k ≤ n → bs ++ (bitsOf n v).take (m + k) = cur ++ bitsOf k (v / 2 ^ (n - m - k)) := fun k h => by rw [bits_next h, ← hcur, List.append_assoc]
    have hnum : ∀ k, num (bitsOf k (v / 2 ^ (n - m - k))) = v / 2 ^ (n - m - k) % 2 ^ k := fun k => num_bitsOf _ _
    unfold bits_Writer_put_L1
    rw [if_pos (by simp; omega)]
    simp only [tmod8]
    have hmin : ∀ (c N : Nat), (if (c : Int) < (N : Int) then (c : Int) else (N : Int)) = ((min c N : Nat) : Int) := fun c N => by
      split <;> rename_i h <;> (congr 1; omega)
    by_cases h0 : L % 8 = 0
    · rw [if_pos (by simp; omega)]
      rw [app_ok (by simp [pk_length, hcl]; omega)]
      simp only [Option.bind_some]
      unfold bits_Writer_put_K1 bits_place_rest
      simp only [tmod8, Option.bind_some]
      rw [if_pos (by simp; omega)]
      rw [show (8 : Int) = ((8 : Nat) : Int) from rfl, hmin]
      obtain ⟨a', e, q⟩ := key (min 8 (n - m)) (by omega) (by omega)
      refine ⟨a', ?_, q⟩
      rw [← e]
      have hpl : (pk cur).length = L / 8 := by rw [pk_length, hcl]; omega
      rw [put_step (N := n - m) (L := L) (k := min 8 (n - m)) (P := 0) rfl rfl (by omega) (by omega) (by omega) hv62 (by omega) (by omega) (by rw [List.getElem?_append_right (by omega), hpl]; simp) (by rw [h0]; decide)]
      rw [hnext _ (by omega), pk_new _ _ (by rw [hcl]; exact h0) (by intro e; have := congrArg List.length e; simp [bitsOf_length] at this; omega) (by rw [bitsOf_length]; omega)]
      rw [hnum, bitsOf_length, h0]
      rw [List.set_append_right _ _ (by omega), hpl]
      simp
    · rw [if_neg (by simp; omega)]
      unfold bits_Writer_put_K1 bits_place_rest
      simp only [tmod8, Option.bind_some]
      rw [if_neg (by simp; omega)]
      have e3 : W (8 - ((L % 8 : Nat) : Int)) = ((8 - L % 8 : Nat) : Int) := by rw [W_id (by omega) (by omega)]; omega
      rw [e3, tmod8, Nat.mod_eq_of_lt (show 8 - L % 8 < 8 by omega), hmin]
      obtain ⟨a', e, q⟩ := key (min (8 - L % 8) (n - m)) (by omega) (by omega)
      refine ⟨a', ?_, q⟩
      rw [← e]
      have hlast := pk_last cur (by rw [hcl]; omega)
      rw [hcl] at hlast
      have hdl : (cur.drop (8 * (L / 8))).length = L % 8 := by rw [List.length_drop, hcl]; omega
      rw [put_step (N := n - m) (L := L) (k := min (8 - L % 8) (n - m)) (P := num (cur.drop (8 * (L / 8)))) rfl rfl (by omega) (by omega) (by omega) hv62 (by omega) (by omega) hlast (by have := num_lt (cur.drop (8 * (L / 8))); rw [hdl] at this; exact this)]
      rw [hnext _ (by omega), pk_more _ _ (by rw [hcl]; omega) (by rw [hcl, bitsOf_length]; omega), hcl, hnum, bitsOf_length]
  · right
    obtain rfl : m = n := by omega
    unfold bits_Writer_put_L1
    rw [if_neg (by simp)]
    simp only [List.length_append, bitsOf_length]
    rw [List.take_of_length_le (by simp [bitsOf_length])]
    rfl
end Go.Vg

namespace Go.Vg

/-- The bits of bytes. -/
def bitsB (b : List Int) : List Bool := b.flatMap fun x => bitsOf 8 x.toNat
theorem bitsB_cons (x : Int) (b : List Int) : bitsB (x :: b) = bitsOf 8 x.toNat ++ bitsB b := rfl
theorem bitsB_length (b : List Int) : (bitsB b).length = 8 * b.length := by
  induction b with
  | nil => rfl
  | cons x b ih => rw [bitsB_cons, List.length_append, ih, bitsOf_length, List.length_cons]; omega
theorem bitsB_drop8 (q : Nat) (b : List Int) : (bitsB b).drop (8 * q) = bitsB (b.drop q) := by
  induction q generalizing b with
  | zero => rfl
  | succ q ih =>
    cases b with
    | nil => simp [bitsB]
    | cons x b =>
      rw [bitsB_cons, Nat.mul_succ, Nat.add_comm, ← List.drop_drop, List.drop_left' (by rw [bitsOf_length]), ih]
      rfl
theorem bitsB_in {b : List Int} {p k x : Nat} (hx : b[p / 8]? = some (x : Int)) (h : p % 8 + k ≤ 8) : ((bitsB b).drop p).take k = bitsOf k (x / 2 ^ (8 - p % 8 - k)) := by
  have hq : p / 8 < b.length := by
    rcases Nat.lt_or_ge (p / 8) b.length with h | h
    · exact h
    · rw [List.getElem?_eq_none h] at hx; cases hx
  rw [List.getElem?_eq_getElem hq, Option.some.injEq] at hx
  rw [show (bitsB b).drop p = ((bitsB b).drop (8 * (p / 8))).drop (p % 8) by rw [List.drop_drop]; congr 1; omega]
  rw [bitsB_drop8, List.drop_eq_getElem_cons hq, hx, bitsB_cons, Int.toNat_natCast]
  obtain ⟨s, hs⟩ : ∃ s, 8 = p % 8 + (k + s) := ⟨8 - p % 8 - k, by omega⟩
  have e : 8 - p % 8 - k = s := by omega
  rw [e]
  have hb : bitsOf 8 x = bitsOf (p % 8) (x / 2 ^ (k + s)) ++ (bitsOf k (x / 2 ^ s) ++ bitsOf s x) := by
    rw [← bitsOf_add, ← bitsOf_add, ← hs]
  rw [hb, List.append_assoc, List.drop_left' (by rw [bitsOf_length]), List.append_assoc, List.take_left' (by rw [bitsOf_length])]
theorem or_nat {x y : Nat} (hx : x < 9223372036854775808) (hy : y < 9223372036854775808) : arD .or .i64 (x : Int) (y : Int) = ((x ||| y : Nat) : Int) := by
  have h1 : (BitVec.ofInt IntKind.i64.bits (x : Int) ||| BitVec.ofInt IntKind.i64.bits (y : Int)).toNat = x ||| y := by
    rw [BitVec.ofInt_natCast, BitVec.ofInt_natCast, BitVec.toNat_or, BitVec.toNat_ofNat, BitVec.toNat_ofNat]
    simp only [IntKind.bits]
    rw [Nat.mod_eq_of_lt (by omega), Nat.mod_eq_of_lt (by omega)]
  simp only [arD, h1]
  have : x ||| y < 2 ^ 63 := Nat.or_lt_two_pow (by omega) (by omega)
  exact i64_id (by omega) (by omega)
/-- Bytes are bytes. -/
def Bytes8 (b : List Int) : Prop := ∀ (i : Nat) (x : Int), b[i]? = some x → 0 ≤ x ∧ x < 256

theorem take_spec {b : List Int} {n p : Nat} (hb : Bytes8 b) (hn : n ≤ 48) (h : p + n ≤ 8 * b.length) (hl : b.length < 2 ^ 40) :
    bits_Reader_Take (n : Int) ⟨⟨(p : Int)⟩, b⟩ = some (((num (((bitsB b).drop p).take n) : Nat) : Int), 0, ((p + n : Nat) : Int)) := by
  unfold bits_Reader_Take bits_Reader_Left
  rw [if_neg (by simp; omega)]
  simp only [Option.bind_some]
  have e0 : W ((b.length : Int) * 8) = ((8 * b.length : Nat) : Int) := by rw [W_id (by omega) (by omega)]; omega
  have e1 : W (((8 * b.length : Nat) : Int) - (p : Int)) = ((8 * b.length - p : Nat) : Int) := by rw [W_id (by omega) (by omega)]; omega
  rw [e0, e1, if_neg (by simp; omega)]
  have hbl := bitsB_length b
  refine iter_eq (I := fun a : Int × Int × Int × Int => ∃ m, m ≤ n ∧ a = (((n - m : Nat) : Int), ((num (((bitsB b).drop p).take m) : Nat) : Int), ((p + m : Nat) : Int), ((p + m : Nat) : Int))) (m := fun a => a.1.toNat) _ (fun a ha => ?_) ⟨0, Nat.zero_le _, rfl⟩ (by simp only [Int.toNat_natCast]; exact Nat.lt_of_le_of_lt hn (by decide))
  obtain ⟨m, hm, rfl⟩ := ha
  unfold bits_Reader_Take_L1
  by_cases hlt : m < n
  · left
    rw [if_pos (by simp; omega)]
    simp only [tmod8, tdiv8]
    have e3 : W (8 - (((p + m) % 8 : Nat) : Int)) = ((8 - (p + m) % 8 : Nat) : Int) := by rw [W_id (by omega) (by omega)]; omega
    have hmin : ∀ (c N : Nat), (if (c : Int) < (N : Int) then (c : Int) else (N : Int)) = ((min c N : Nat) : Int) := fun c N => by
      split <;> rename_i h <;> (congr 1; omega)
    rw [e3, hmin]
    generalize hk : min (8 - (p + m) % 8) (n - m) = k
    have hk1 : 1 ≤ k := by omega
    have hk2 : (p + m) % 8 + k ≤ 8 := by omega
    have hk3 : m + k ≤ n := by omega
    have e4 : W (((p + m) / 8 : Nat) : Int) = (((p + m) / 8 : Nat) : Int) := W_id (by omega) (by omega)
    have e5 : W (((8 - (p + m) % 8 : Nat) : Int) - (k : Int)) = ((8 - (p + m) % 8 - k : Nat) : Int) := by rw [W_id (by omega) (by omega)]; omega
    have e6 : W (((n - m : Nat) : Int) - (k : Int)) = ((n - (m + k) : Nat) : Int) := by rw [W_id (by omega) (by omega)]; omega
    have e7 : W (((p + m : Nat) : Int) + (k : Int)) = ((p + (m + k) : Nat) : Int) := by rw [W_id (by omega) (by omega)]; omega
    rw [e4, e5, e6, e7]
    have hi : (p + m) / 8 < b.length := by omega
    obtain ⟨x, hx⟩ : ∃ x : Nat, b[(p + m) / 8]? = some (x : Int) := by
      have := hb _ _ (List.getElem?_eq_getElem hi)
      exact ⟨_, by rw [List.getElem?_eq_getElem hi, Int.toNat_of_nonneg this.1]⟩
    have hx8 : x < 256 := by have := hb _ _ hx; omega
    rw [idx_ok hx]
    simp only [Option.bind_some]
    rw [need_ok (by simp <;> omega), need_ok (by simp <;> omega), need_ok (by simp <;> omega)]
    have p1 : (2 : Nat) ^ k ≤ 256 := Nat.le_trans (Nat.pow_le_pow_right (by omega) (show k ≤ 8 by omega)) (by decide)
    have p0 : 0 < (2 : Nat) ^ k := Nat.pow_pos (by omega)
    have e8 : shD .shl .i64 1 (k : Int) = ((2 ^ k : Nat) : Int) := by
      have := shl_nat (x := 1) (s := k) (by omega) (by omega)
      simpa using this
    have e9 : W (((2 ^ k : Nat) : Int) - 1) = ((2 ^ k - 1 : Nat) : Int) := by rw [W_id (by omega) (by omega)]; omega
    have hd : x / 2 ^ (8 - (p + m) % 8 - k) ≤ x := Nat.div_le_self _ _
    rw [e8, e9, shr_nat (by omega), and_nat (by omega) (by omega), Nat.and_two_pow_sub_one_eq_mod]
    have hbits := bitsB_in hx hk2
    have hnx : ((bitsB b).drop p).take (m + k) = ((bitsB b).drop p).take m ++ bitsOf k (x / 2 ^ (8 - (p + m) % 8 - k)) := by
      rw [List.take_add, List.drop_drop, hbits]
    have hv := num_lt (((bitsB b).drop p).take m)
    have hvl : (((bitsB b).drop p).take m).length = m := by rw [List.length_take, List.length_drop, hbl]; omega
    rw [hvl] at hv
    have hv2 : num (((bitsB b).drop p).take m) * 2 ^ k < 2 ^ (m + k) := by rw [Nat.pow_add]; exact Nat.mul_lt_mul_of_pos_right hv p0
    have hv3 : (2 : Nat) ^ (m + k) ≤ 2 ^ 48 := Nat.pow_le_pow_right (by omega) (by omega)
    have p2 : x / 2 ^ (8 - (p + m) % 8 - k) % 2 ^ k < 2 ^ k := Nat.mod_lt _ p0
    rw [shl_nat (by omega) (by omega), or_nat (by omega) (by omega)]
    have e10 := or_add (a := num (((bitsB b).drop p).take m)) (s := 0) p2
    simp only [Nat.pow_zero, Nat.mul_one, Nat.add_zero] at e10
    rw [e10]
    refine ⟨_, rfl, ⟨m + k, hk3, ?_⟩, ?_⟩
    · rw [hnx, num_append, bitsOf_length, num_bitsOf]
    · simp only [Int.toNat_natCast]; omega
  · right
    obtain rfl : m = n := by omega
    rw [if_neg (by simp)]
    rfl
end Go.Vg

namespace Go.Vg

theorem shr_u8 {x s : Nat} (hs : s ≤ 8) : shD .shr .u8 (x : Int) (s : Int) = ((x / 2 ^ s : Nat) : Int) := by
  simp only [shD, IntKind.bits, Int.toNat_natCast]
  rw [Nat.min_eq_left hs]
  have : (2 : Int) ^ s = ((2 ^ s : Nat) : Int) := by push_cast; rfl
  rw [this, Int.fdiv_eq_ediv_of_nonneg _ (Int.natCast_nonneg _)]
  exact (Int.natCast_ediv _ _).symm
theorem pow_shl {n : Nat} (hn : n ≤ 62) : shD .shl .i64 1 (n : Int) = ((2 ^ n : Nat) : Int) := by
  have h : (2 : Nat) ^ n ≤ 2 ^ 62 := Nat.pow_le_pow_right (by omega) hn
  have := shl_nat (x := 1) (s := n) (by omega) (by omega)
  simpa using this
theorem pow_mask {n : Nat} (hn : n ≤ 62) : W (((2 ^ n : Nat) : Int) - 1) = ((2 ^ n - 1 : Nat) : Int) := by
  have h : (2 : Nat) ^ n ≤ 2 ^ 62 := Nat.pow_le_pow_right (by omega) hn
  have h0 : 0 < (2 : Nat) ^ n := Nat.pow_pos (by omega)
  rw [W_id (by omega) (by omega)]; omega

theorem Put_ok {v n : Nat} (bs : List Bool) (hn : n ≤ 48) (hv : v < 2 ^ n) (hL : bs.length + n < 2 ^ 40) :
    bits_Writer_Put (n : Int) (v : Int) (bs.length : Int) (pk bs) = some (0, ((bs ++ bitsOf n v).length : Int), pk (bs ++ bitsOf n v)) := by
  unfold bits_Writer_Put
  rw [if_neg (by simp; omega), if_neg (by simp), need_ok (by simp), pow_shl (by omega), if_neg (by simp; exact_mod_cast hv), put_spec bs hn hv hL]
  rfl
theorem bitsOf_zero (n : Nat) : bitsOf n 0 = List.replicate n false := by
  induction n with
  | zero => rfl
  | succ n ih => rw [bitsOf, Nat.zero_div, ih, List.replicate_succ']; rfl
theorem Unary_ok {n : Nat} (bs : List Bool) (hn : n ≤ 65536) (hL : bs.length + n + 1 < 2 ^ 40) :
    bits_Writer_Unary (n : Int) (bs.length : Int) (pk bs) = some (0, ((bs ++ (List.replicate n false ++ [true])).length : Int), pk (bs ++ (List.replicate n false ++ [true]))) := by
  unfold bits_Writer_Unary
  rw [if_neg (by simp; omega)]
  refine iter_eq (I := fun a : Int × Int × List Int => ∃ m, m ≤ n ∧ a = (((n - m : Nat) : Int), ((bs ++ List.replicate m false).length : Int), pk (bs ++ List.replicate m false))) (m := fun a => a.1.toNat) _ (fun a ha => ?_) ⟨0, Nat.zero_le _, by simp⟩ (by simp only [Int.toNat_natCast]; exact Nat.lt_of_le_of_lt hn (by decide))
  obtain ⟨m, hm, rfl⟩ := ha
  have hl : (bs ++ List.replicate m false).length = bs.length + m := by simp
  unfold bits_Writer_Unary_L1
  by_cases h48 : 48 < n - m
  · left
    rw [if_pos (by simp; omega)]
    rw [show (48 : Int) = ((48 : Nat) : Int) from rfl, show (0 : Int) = ((0 : Nat) : Int) from rfl, put_spec (v := 0) (n := 48) (bs ++ List.replicate m false) (by omega) (by decide) (by rw [hl]; omega)]
    refine ⟨_, rfl, ⟨m + 48, by omega, ?_⟩, ?_⟩
    · rw [bitsOf_zero, List.append_assoc, List.replicate_append_replicate]
      congr 1
      rw [W_id (by omega) (by omega)]
      omega
    · simp only [Option.bind_some]
      rw [W_id (by omega) (by omega)]
      omega
  · right
    rw [if_neg (by simp; omega)]
    unfold bits_Writer_Unary_K1
    rw [show (0 : Int) = ((0 : Nat) : Int) from rfl, put_spec (v := 0) (n := n - m) (bs ++ List.replicate m false) (by omega) (Nat.pow_pos (by omega)) (by rw [hl]; omega)]
    simp only [Option.bind_some]
    rw [bitsOf_zero, List.append_assoc, List.replicate_append_replicate, show m + (n - m) = n by omega]
    have h1 := put_spec (v := 1) (n := 1) (bs ++ List.replicate n false) (by omega) (by decide) (by simp; omega)
    rw [show (1 : Int) = ((1 : Nat) : Int) from rfl, h1]
    simp only [Option.bind_some, List.append_assoc]
    rfl
theorem bit_spec {q : Int} {b : List Int} {p : Nat} (hb : Bytes8 b) (h : p < 8 * b.length) (hl : b.length < 2 ^ 40) : ∃ v, (bitsB b)[p]? = some v ∧ bits_Reader_bit (p : Int) ⟨⟨q⟩, b⟩ = some (if v = true then 1 else 0) := by
  have hi : p / 8 < b.length := by omega
  obtain ⟨x, hx⟩ : ∃ x : Nat, b[p / 8]? = some (x : Int) := by
    have := hb _ _ (List.getElem?_eq_getElem hi)
    exact ⟨_, by rw [List.getElem?_eq_getElem hi, Int.toNat_of_nonneg this.1]⟩
  have hx8 : x < 256 := by have := hb _ _ hx; omega
  have hbits := bitsB_in (k := 1) hx (by omega)
  have hbl := bitsB_length b
  have hg : (bitsB b)[p]? = some (x / 2 ^ (8 - p % 8 - 1) % 2 == 1) := by
    have h1 : (((bitsB b).drop p).take 1)[0]? = (bitsB b)[p]? := by
      rw [List.getElem?_take_of_lt (by omega), List.getElem?_drop]; rfl
    rw [← h1, hbits]; rfl
  refine ⟨_, hg, ?_⟩
  unfold bits_Reader_bit
  simp only [tmod8, tdiv8]
  have e1 : W ((p / 8 : Nat) : Int) = ((p / 8 : Nat) : Int) := W_id (by omega) (by omega)
  have e2 : W (7 - ((p % 8 : Nat) : Int)) = ((8 - p % 8 - 1 : Nat) : Int) := by rw [W_id (by omega) (by omega)]; omega
  simp only [e1, e2, idx_ok hx, Option.bind_some]
  have hd : x / 2 ^ (8 - p % 8 - 1) ≤ x := Nat.div_le_self _ _
  rw [need_ok (by simp), shr_u8 (by omega), show (1 : Int) = ((1 : Nat) : Int) from rfl, and_nat (by omega) (by omega)]
  rw [show (1 : Nat) = 2 ^ 1 - 1 from rfl, Nat.and_two_pow_sub_one_eq_mod]
  rcases Nat.mod_two_eq_zero_or_one (x / 2 ^ (8 - p % 8 - (2 ^ 1 - 1))) with h | h <;> simp [h]
end Go.Vg

namespace Go.Vg

/-- What a signed number is written as. -/
def sgn (n : Nat) (v : Int) : Nat := (v % (2 : Int) ^ n).toNat
theorem sgn_lt (n : Nat) (v : Int) : sgn n v < 2 ^ n := by
  unfold sgn
  have h0 : (0 : Int) < (2 : Int) ^ n := Int.pow_pos (by decide)
  have h1 := Int.emod_lt_of_pos v h0
  have h2 := Int.emod_nonneg v (Int.ne_of_gt h0)
  have h3 : ((2 ^ n : Nat) : Int) = (2 : Int) ^ n := by push_cast; rfl
  omega
theorem and_mask {n : Nat} (v : Int) (hn : n ≤ 48) : arD .and .i64 v ((2 ^ n - 1 : Nat) : Int) = ((sgn n v : Nat) : Int) := by
  have hp : (2 : Nat) ^ n ≤ 2 ^ 48 := Nat.pow_le_pow_right (by omega) hn
  have h1 : (BitVec.ofInt IntKind.i64.bits v &&& BitVec.ofInt IntKind.i64.bits ((2 ^ n - 1 : Nat) : Int)).toNat = sgn n v := by
    rw [BitVec.ofInt_natCast, BitVec.toNat_and, BitVec.toNat_ofNat, BitVec.toNat_ofInt]
    simp only [IntKind.bits]
    rw [Nat.mod_eq_of_lt (show 2 ^ n - 1 < 2 ^ 64 by omega), Nat.and_two_pow_sub_one_eq_mod]
    unfold sgn
    have h3 : ((2 ^ n : Nat) : Int) = (2 : Int) ^ n := by push_cast; rfl
    have h4 : (2 : Int) ^ n ∣ ((2 ^ 64 : Nat) : Int) := by
      refine ⟨((2 ^ (64 - n) : Nat) : Int), ?_⟩
      rw [← h3, ← Int.natCast_mul, ← Nat.pow_add]
      congr 2
      omega
    have h5 : 0 ≤ v % ((2 ^ 64 : Nat) : Int) := Int.emod_nonneg _ (by decide)
    have h6 := Int.emod_emod_of_dvd v h4
    rw [← h6, ← h3]
    apply Int.ofNat.inj
    have h7 : 0 ≤ v % ((2 ^ 64 : Nat) : Int) % ((2 ^ n : Nat) : Int) := Int.emod_nonneg _ (by have := Nat.pow_pos (n := n) (show 0 < 2 by omega); omega)
    simp only [Int.ofNat_eq_natCast]
    rw [Int.toNat_of_nonneg h7, Int.natCast_emod, Int.toNat_of_nonneg h5]
  simp only [arD, h1]
  have := sgn_lt n v
  exact i64_id (by omega) (by omega)
theorem Signed_ok {v : Int} {n : Nat} (bs : List Bool) (h1 : 1 ≤ n) (hn : n ≤ 48) (hv : -(2 : Int) ^ (n - 1) ≤ v) (hv2 : v < (2 : Int) ^ (n - 1)) (hL : bs.length + n < 2 ^ 40) :
    bits_Writer_Signed (n : Int) v (bs.length : Int) (pk bs) = some (0, ((bs ++ bitsOf n (sgn n v)).length : Int), pk (bs ++ bitsOf n (sgn n v))) := by
  have e0 : W ((n : Int) - 1) = ((n - 1 : Nat) : Int) := by rw [W_id (by omega) (by omega)]; omega
  have hp : (2 : Nat) ^ (n - 1) ≤ 2 ^ 47 := Nat.pow_le_pow_right (by omega) (by omega)
  have h3 : ((2 ^ (n - 1) : Nat) : Int) = (2 : Int) ^ (n - 1) := by push_cast; rfl
  have e1 : shD .shl .i64 (-1) ((n - 1 : Nat) : Int) = -((2 ^ (n - 1) : Nat) : Int) := by
    simp only [shD, IntKind.bits, Int.toNat_natCast]
    rw [Nat.min_eq_left (by omega), ← h3]
    exact (i64_id (by omega) (by omega)).trans (by omega)
  unfold bits_Writer_Signed
  rw [if_neg (by simp; omega), if_neg (by simp; omega), if_pos (by simp; omega)]
  simp only [e0, e1]
  rw [need_ok (by simp), if_neg (by simp; omega), need_ok (by simp), pow_shl (by omega), if_neg (by simp; omega), need_ok (by simp), pow_shl (by omega), pow_mask (by omega)]
  unfold lett
  rw [and_mask v hn]
  show (bits_Writer_put (n : Int) ((sgn n v : Nat) : Int) (bs.length : Int) (pk bs)).bind _ = _
  rw [put_spec bs hn (sgn_lt n v) hL]
  rfl
theorem sgn_back {v : Int} {n : Nat} (h1 : 1 ≤ n) (hv : -(2 : Int) ^ (n - 1) ≤ v) (hv2 : v < (2 : Int) ^ (n - 1)) : (if sgn n v / 2 ^ (n - 1) = 1 then ((sgn n v : Nat) : Int) - 2 ^ n else (sgn n v : Int)) = v := by
  obtain ⟨m, rfl⟩ : ∃ m, n = m + 1 := ⟨n - 1, by omega⟩
  simp only [Nat.add_sub_cancel] at *
  have h3 : ((2 ^ m : Nat) : Int) = (2 : Int) ^ m := by push_cast; rfl
  have h4 : (2 : Int) ^ (m + 1) = 2 * ((2 ^ m : Nat) : Int) := by rw [Int.pow_succ, ← h3]; omega
  have h0 : 0 < (2 : Nat) ^ m := Nat.pow_pos (by omega)
  have h5 : (sgn (m + 1) v : Int) = v % (2 * ((2 ^ m : Nat) : Int)) := by
    unfold sgn
    rw [h4, Int.toNat_of_nonneg (Int.emod_nonneg _ (by omega))]
  rw [← h3] at hv hv2
  rw [h4]
  by_cases h : 0 ≤ v
  · have e : v % (2 * ((2 ^ m : Nat) : Int)) = v := Int.emod_eq_of_lt h (by omega)
    rw [e] at h5
    rw [if_neg, h5]
    rw [Nat.div_eq_of_lt (by omega)]
    omega
  · have e : v % (2 * ((2 ^ m : Nat) : Int)) = v + 2 * ((2 ^ m : Nat) : Int) := by
      rw [← Int.add_emod_right]
      exact Int.emod_eq_of_lt (by omega) (by omega)
    rw [e] at h5
    rw [if_pos, h5]
    · omega
    · have : sgn (m + 1) v = 2 ^ m * 1 + (sgn (m + 1) v - 2 ^ m) := by omega
      rw [this, Nat.mul_add_div h0, Nat.div_eq_of_lt (by omega)]
theorem signed_spec {b : List Int} {n p : Nat} (hb : Bytes8 b) (h1 : 1 ≤ n) (hn : n ≤ 48) (h : p + n ≤ 8 * b.length) (hl : b.length < 2 ^ 40) :
    bits_Reader_Signed (n : Int) ⟨⟨(p : Int)⟩, b⟩ = some ((if num (((bitsB b).drop p).take n) / 2 ^ (n - 1) = 1 then ((num (((bitsB b).drop p).take n) : Nat) : Int) - 2 ^ n else (num (((bitsB b).drop p).take n) : Int)), 0, ((p + n : Nat) : Int)) := by
  unfold bits_Reader_Signed
  rw [take_spec hb hn h hl]
  have hv := num_lt (((bitsB b).drop p).take n)
  have hvl : (((bitsB b).drop p).take n).length = n := by rw [List.length_take, List.length_drop, bitsB_length]; omega
  rw [hvl] at hv
  generalize num (((bitsB b).drop p).take n) = x at *
  have hp : (2 : Nat) ^ n ≤ 2 ^ 48 := Nat.pow_le_pow_right (by omega) (by omega)
  have h3 : ((2 ^ n : Nat) : Int) = (2 : Int) ^ n := by push_cast; rfl
  have e0 : W ((n : Int) - 1) = ((n - 1 : Nat) : Int) := by rw [W_id (by omega) (by omega)]; omega
  simp only [Option.bind_some, e0]
  rw [if_pos (by simp; omega), need_ok (by simp), shr_nat (by omega), pow_shl (by omega)]
  unfold bits_Reader_Signed_K1
  by_cases hx : x / 2 ^ (n - 1) = 1
  · rw [if_pos (by simp [hx]), need_ok (by simp), if_pos hx, ← h3]
    rw [W_id (by omega) (by omega)]
  · rw [if_neg (by simp; exact_mod_cast hx), if_neg hx]

/-- Noughts up to a one. -/
theorem unary_spec {b : List Int} {n p : Nat} {t : List Bool} (hb : Bytes8 b) (h : (bitsB b).drop p = List.replicate n false ++ true :: t) (hl : b.length < 2 ^ 20) (hp : p ≤ 8 * b.length) :
    bits_Reader_Unary ⟨⟨(p : Int)⟩, b⟩ = some ((n : Int), 0, ((p + n + 1 : Nat) : Int)) := by
  have hbl := bitsB_length b
  have hlen : p + n + 1 ≤ 8 * b.length := by
    have := congrArg List.length h
    simp at this
    omega
  have hget : ∀ j, (bitsB b)[p + j]? = (List.replicate n false ++ true :: t)[j]? := fun j => by rw [← h, List.getElem?_drop]
  have e0 : W ((b.length : Int) * 8) = ((8 * b.length : Nat) : Int) := by rw [W_id (by omega) (by omega)]; omega
  unfold bits_Reader_Unary
  refine iter_eq (I := fun a : Int => ∃ m, m ≤ n ∧ a = ((p + m : Nat) : Int)) (m := fun a => 8 * b.length - a.toNat) _ (fun a ha => ?_) ⟨0, Nat.zero_le _, rfl⟩ (Nat.lt_of_le_of_lt (Nat.sub_le _ _) (Nat.lt_of_lt_of_le (show 8 * b.length < 2 ^ 24 by omega) (by decide)))
  obtain ⟨m, hm, rfl⟩ := ha
  have hlim : p + m < 8 * b.length := by omega
  obtain ⟨v, hv, hbit⟩ := bit_spec (q := (p : Int)) hb hlim (by omega)
  rw [hget] at hv
  unfold bits_Reader_Unary_L1
  simp only [e0, tmod8, tdiv8]
  rw [if_pos (by simp; omega)]
  have eW1 : W (((p + m : Nat) : Int) + 1) = ((p + (m + 1) : Nat) : Int) := by rw [W_id (by omega) (by omega)]; omega
  have eW8 : W (((p + m : Nat) : Int) + 8) = ((p + (m + 8) : Nat) : Int) := by rw [W_id (by omega) (by omega)]; omega
  have eD : W (((p + m) / 8 : Nat) : Int) = (((p + m) / 8 : Nat) : Int) := W_id (by omega) (by omega)
  have step1 : ∀ j, m < j → j ≤ n → ∃ a', (some (Sum.inl (β := Int × Int × Int) (((p + j : Nat) : Int)))) = some (Sum.inl a') ∧ (∃ m, m ≤ n ∧ a' = ((p + m : Nat) : Int)) ∧ 8 * b.length - a'.toNat < 8 * b.length - (((p + m : Nat) : Int)).toNat := fun j h1 h2 =>
    ⟨_, rfl, ⟨j, h2, rfl⟩, by simp only [Int.toNat_natCast]; omega⟩
  have done : m = n → bits_Reader_Unary_K1 ⟨⟨(p : Int)⟩, b⟩ ((p + m : Nat) : Int) = some ((n : Int), 0, ((p + n + 1 : Nat) : Int)) := by
    rintro rfl
    unfold bits_Reader_Unary_K1
    simp only [e0]
    rw [if_neg (by simp; omega), eW1, W_id (by omega) (by omega)]
    congr 2
    omega
  have hbitv : (m < n ∧ v = false) ∨ (m = n ∧ v = true) := by
    rcases Nat.lt_or_ge m n with h1 | h1
    · rw [List.getElem?_append_left (by simpa using h1), List.getElem?_replicate, if_pos h1] at hv
      exact .inl ⟨h1, (Option.some.inj hv).symm⟩
    · obtain rfl : m = n := by omega
      rw [List.getElem?_append_right (by simp)] at hv
      simp at hv
      exact .inr ⟨rfl, hv⟩
  have hone : ((bits_Reader_bit ((p + m : Nat) : Int) ⟨⟨(p : Int)⟩, b⟩).bind fun r => if (r == 0) = true then some (Sum.inl (β := Int × Int × Int) (W (((p + m : Nat) : Int) + 1))) else Option.map Sum.inr (bits_Reader_Unary_K1 ⟨⟨(p : Int)⟩, b⟩ ((p + m : Nat) : Int))) = (if m < n then some (Sum.inl (((p + (m + 1) : Nat) : Int))) else some (Sum.inr ((n : Int), 0, ((p + n + 1 : Nat) : Int)))) := by
    rw [hbit]
    rcases hbitv with ⟨h1, rfl⟩ | ⟨h1, rfl⟩
    · rw [if_pos h1]; simp only [Option.bind_some]; rw [eW1]; rfl
    · rw [if_neg (show ¬ m < n by omega), if_pos rfl, Option.bind_some, done h1]; rfl
  have fin : (∃ a', (if m < n then some (Sum.inl (((p + (m + 1) : Nat) : Int))) else some (Sum.inr ((n : Int), (0 : Int), ((p + n + 1 : Nat) : Int)))) = some (.inl a') ∧ (∃ m, m ≤ n ∧ a' = ((p + m : Nat) : Int)) ∧ 8 * b.length - a'.toNat < 8 * b.length - (((p + m : Nat) : Int)).toNat) ∨ (if m < n then some (Sum.inl (((p + (m + 1) : Nat) : Int))) else some (Sum.inr ((n : Int), (0 : Int), ((p + n + 1 : Nat) : Int)))) = some (.inr ((n : Int), 0, ((p + n + 1 : Nat) : Int))) := by
    by_cases h1 : m < n
    · rw [if_pos h1]; exact .inl (step1 (m + 1) (by omega) (by omega))
    · rw [if_neg h1]; exact .inr rfl
  by_cases h8 : (p + m) % 8 = 0
  · rw [if_pos (by simp; omega), eD]
    have hi : (p + m) / 8 < b.length := by omega
    obtain ⟨x, hx⟩ : ∃ x : Nat, b[(p + m) / 8]? = some (x : Int) := by
      have := hb _ _ (List.getElem?_eq_getElem hi)
      exact ⟨_, by rw [List.getElem?_eq_getElem hi, Int.toNat_of_nonneg this.1]⟩
    rw [idx_ok hx]
    simp only [Option.bind_some]
    by_cases hx0 : x = 0
    · subst hx0
      rw [if_pos (by rfl), eW8]
      left
      refine step1 (m + 8) (by omega) ?_
      rcases Nat.lt_or_ge n (m + 8) with h9 | h9
      · exfalso
        have h10 := bitsB_in (k := 8) hx (by omega)
        rw [Nat.zero_div, bitsOf_zero] at h10
        have h11 : (((bitsB b).drop (p + m)).take 8)[n - m]? = some true := by
          rw [List.getElem?_take_of_lt (by omega), List.getElem?_drop, show p + m + (n - m) = p + n by omega, hget, List.getElem?_append_right (by simp)]
          simp
        rw [h10, List.getElem?_replicate, if_pos (by omega)] at h11
        cases h11
      · exact h9
    · rw [if_neg (by simp; omega), hone]
      exact fin
  · rw [if_neg (by simp; omega), hone]
    exact fin
end Go.Vg

namespace Go.Vg

theorem drop_more {b : List Bool} {p : Nat} {x t : List Bool} (h : b.drop p = x ++ t) : b.drop (p + x.length) = t := by
  rw [← List.drop_drop, h, List.drop_left]
theorem drop_len {b : List Bool} {p : Nat} {x t : List Bool} (h : b.drop p = x ++ t) (hp : p ≤ b.length) : p + x.length ≤ b.length := by
  have := congrArg List.length h
  simp only [List.length_drop, List.length_append] at this
  omega
theorem take_of {b : List Int} {n p v : Nat} {t : List Bool} (hb : Bytes8 b) (hn : n ≤ 48) (hv : v < 2 ^ n) (h : (bitsB b).drop p = bitsOf n v ++ t) (hp : p ≤ 8 * b.length) (hl : b.length < 2 ^ 40) :
    bits_Reader_Take (n : Int) ⟨⟨(p : Int)⟩, b⟩ = some ((v : Int), 0, ((p + n : Nat) : Int)) := by
  have h1 := drop_len h (by rw [bitsB_length]; exact hp)
  rw [bitsOf_length, bitsB_length] at h1
  rw [take_spec hb hn h1 hl, h, List.take_left' (bitsOf_length n v), num_bitsOf, Nat.mod_eq_of_lt hv]
theorem number_of {b : List Int} {n p v : Nat} {t : List Bool} (hb : Bytes8 b) (hn : n ≤ 48) (hv : v < 2 ^ n) (h : (bitsB b).drop p = bitsOf n v ++ t) (hp : p ≤ 8 * b.length) (hl : b.length < 2 ^ 40) :
    rice_reader_number (n : Int) 0 ⟨⟨(p : Int)⟩, b⟩ = some ((v : Int), 0, ((p + n : Nat) : Int)) := by
  unfold rice_reader_number rice_reader_take rice_reader_number_c1
  rw [if_neg (by decide), take_of hb hn hv h hp hl]
  rfl
theorem signed_of {b : List Int} {n p : Nat} {v : Int} {t : List Bool} (hb : Bytes8 b) (h1 : 1 ≤ n) (hn : n ≤ 48) (hv : -(2 : Int) ^ (n - 1) ≤ v) (hv2 : v < (2 : Int) ^ (n - 1)) (h : (bitsB b).drop p = bitsOf n (sgn n v) ++ t) (hp : p ≤ 8 * b.length) (hl : b.length < 2 ^ 40) :
    bits_Reader_Signed (n : Int) ⟨⟨(p : Int)⟩, b⟩ = some (v, 0, ((p + n : Nat) : Int)) := by
  have h2 := drop_len h (by rw [bitsB_length]; exact hp)
  rw [bitsOf_length, bitsB_length] at h2
  rw [signed_spec hb h1 hn h2 hl, h, List.take_left' (bitsOf_length _ _), num_bitsOf, Nat.mod_eq_of_lt (sgn_lt n v), sgn_back h1 hv hv2]

/-- A residual as a number. -/
def foldN (v : Int) : Nat := if v < 0 then (-2 * v - 1).toNat else (2 * v).toNat
theorem fold_spec {v : Int} (h1 : -4611686018427387904 < v) (h2 : v < 4611686018427387904) : rice_fold v = some ((foldN v : Int), decide (-2147483648 < v) && decide (v < 2147483648)) := by
  unfold rice_fold foldN
  by_cases h : v < 0
  · rw [if_pos (by simpa using h), if_pos h, W_id (x := -2 * v) (by omega) (by omega), W_id (x := -2 * v - 1) (by omega) (by omega)]
    have e1 : (((-2 * v - 1).toNat : Nat) : Int) = -2 * v - 1 := by omega
    have e2 : decide (v < 2147483648) = true := decide_eq_true (by omega)
    rw [e1, e2, Bool.and_true]
  · rw [if_neg (by simpa using h), if_neg h, W_id (x := 2 * v) (by omega) (by omega)]
    have e1 : (((2 * v).toNat : Nat) : Int) = 2 * v := by omega
    have e2 : decide (-2147483648 < v) = true := decide_eq_true (by omega)
    rw [e1, e2, Bool.true_and]
theorem unfold_fold {v : Int} (h1 : -4611686018427387904 < v) (h2 : v < 4611686018427387904) : rice_unfold (foldN v : Int) = some v := by
  have hlt : foldN v < 9223372036854775808 := by unfold foldN; split <;> omega
  unfold rice_unfold
  rw [show (1 : Int) = ((2 ^ 1 - 1 : Nat) : Int) from rfl, and_nat hlt (by decide), Nat.and_two_pow_sub_one_eq_mod]
  unfold foldN at *
  by_cases h : v < 0
  · rw [if_pos h] at hlt ⊢
    rw [if_pos (by simp; omega)]
    have e1 : (((-2 * v - 1).toNat : Nat) : Int) + ((2 ^ 1 - 1 : Nat) : Int) = -2 * v := by simp; omega
    rw [e1, W_id (x := -2 * v) (by omega) (by omega), show (0 : Int) - -2 * v = v * 2 by omega, W_id (x := v * 2) (by omega) (by omega), Int.mul_tdiv_cancel _ (by decide), W_id (x := v) (by omega) (by omega)]
  · rw [if_neg h] at hlt ⊢
    rw [if_neg (by simp; omega)]
    have e1 : (((2 * v).toNat : Nat) : Int) = v * 2 := by omega
    rw [e1, Int.mul_tdiv_cancel _ (by decide), W_id (by omega) (by omega)]

/-- A residual's bits by a parameter. -/
def codeBits (k : Nat) (v : Int) : List Bool := (List.replicate (foldN v / 2 ^ k) false ++ [true]) ++ bitsOf k (foldN v % 2 ^ k)
theorem codeBits_length (k : Nat) (v : Int) : (codeBits k v).length = foldN v / 2 ^ k + 1 + k := by simp [codeBits, bitsOf_length]; omega
theorem coded_of {b : List Int} {k p : Nat} {v : Int} {t : List Bool} (hb : Bytes8 b) (hk : k ≤ 30) (hv1 : -2147483648 < v) (hv2 : v < 2147483648) (hu : foldN v / 2 ^ k ≤ 65536) (h : (bitsB b).drop p = codeBits k v ++ t) (hp : p ≤ 8 * b.length) (hl : b.length < 2 ^ 20) :
    rice_reader_coded (k : Int) 0 ⟨⟨(p : Int)⟩, b⟩ = some (v, 0, ((p + (codeBits k v).length : Nat) : Int)) := by
  have hlt : foldN v < 4294967296 := by unfold foldN; split <;> omega
  have p0 : 0 < (2 : Nat) ^ k := Nat.pow_pos (by omega)
  have p1 : (2 : Nat) ^ k ≤ 2 ^ 30 := Nat.pow_le_pow_right (by omega) hk
  unfold codeBits at h
  have hA : (bitsB b).drop p = List.replicate (foldN v / 2 ^ k) false ++ true :: (bitsOf k (foldN v % 2 ^ k) ++ t) := by rw [h]; simp
  have hB : (bitsB b).drop (p + foldN v / 2 ^ k + 1) = bitsOf k (foldN v % 2 ^ k) ++ t := by
    have := drop_more (x := List.replicate (foldN v / 2 ^ k) false ++ [true]) (t := bitsOf k (foldN v % 2 ^ k) ++ t) (by rw [h, List.append_assoc])
    simpa [Nat.add_assoc] using this
  have hpB : p + foldN v / 2 ^ k + 1 ≤ 8 * b.length := by
    have := drop_len (x := List.replicate (foldN v / 2 ^ k) false ++ [true]) (t := bitsOf k (foldN v % 2 ^ k) ++ t) (by rw [h, List.append_assoc]) (by rw [bitsB_length]; exact hp)
    rw [bitsB_length] at this
    simp at this
    omega
  unfold rice_reader_coded rice_reader_take_x3
  rw [if_neg (by decide), unary_spec hb hA hl hp]
  simp only [Option.bind_some]
  rw [need_ok (by simp), number_of hb (by omega) (Nat.mod_lt _ p0) hB hpB (by omega)]
  simp only [Option.bind_some]
  have hm : foldN v / 2 ^ k * 2 ^ k ≤ foldN v := Nat.div_mul_le_self _ _
  have hr : foldN v % 2 ^ k < 2 ^ k := Nat.mod_lt _ p0
  rw [shl_nat (by omega) (by omega), or_nat (by omega) (by omega)]
  have e := or_add (a := foldN v / 2 ^ k) (s := 0) hr
  simp only [Nat.pow_zero, Nat.mul_one, Nat.add_zero] at e
  rw [e, Nat.div_add_mod', unfold_fold (by omega) (by omega)]
  simp only [Option.bind_some]
  rw [fold_spec (by omega) (by omega)]
  simp only [Option.bind_some]
  rw [if_neg]
  · unfold rice_reader_coded_K1
    rw [codeBits_length]
    exact congrArg (fun z : Nat => some (v, (0 : Int), (z : Int))) (by omega)
  · have e1 : decide (-2147483648 < v) = true := by simpa using hv1
    have e2 : decide (v < 2147483648) = true := by simpa using hv2
    have e3 : decide (((foldN v / 2 ^ k : Nat) : Int) > 65536) = false := decide_eq_false (by omega)
    rw [e1, e2, e3]
    simp
end Go.Vg

namespace Go.Vg

/-- May a number be written in so many bits, with its sign? -/
def EscOk (n : Nat) (v : Int) : Prop := (n = 0 ∧ v = 0) ∨ (1 ≤ n ∧ n ≤ 48 ∧ -(2 : Int) ^ (n - 1) ≤ v ∧ v < (2 : Int) ^ (n - 1))
def escBits (n : Nat) (v : Int) : List Bool := bitsOf n (sgn n v)
theorem escBits_length (n : Nat) (v : Int) : (escBits n v).length = n := bitsOf_length _ _
theorem signed_any {b : List Int} {n p : Nat} {v : Int} {t : List Bool} (hb : Bytes8 b) (hv : EscOk n v) (h : (bitsB b).drop p = escBits n v ++ t) (hp : p ≤ 8 * b.length) (hl : b.length < 2 ^ 40) :
    bits_Reader_Signed (n : Int) ⟨⟨(p : Int)⟩, b⟩ = some (v, 0, ((p + n : Nat) : Int)) := by
  rcases hv with ⟨rfl, rfl⟩ | ⟨h1, h2, h3, h4⟩
  · have := take_of (n := 0) (v := 0) (t := (bitsB b).drop p) hb (by omega) (by decide) rfl hp hl
    unfold bits_Reader_Signed
    rw [this]
    rfl
  · exact signed_of hb h1 h2 h3 h4 h hp hl
theorem Signed_any {n : Nat} {v : Int} (bs : List Bool) (hv : EscOk n v) (hL : bs.length + n < 2 ^ 40) :
    bits_Writer_Signed (n : Int) v (bs.length : Int) (pk bs) = some (0, ((bs ++ escBits n v).length : Int), pk (bs ++ escBits n v)) := by
  rcases hv with ⟨rfl, rfl⟩ | ⟨h1, h2, h3, h4⟩
  · have h := put_spec (v := 0) (n := 0) bs (by omega) (by decide) (by omega)
    unfold bits_Writer_Signed
    rw [if_neg (by decide), if_neg (by decide), if_neg (by decide), need_ok (by decide)]
    unfold lett
    have e : arD .and .i64 0 (W ((shD .shl .i64 1 ((0 : Nat) : Int)) - 1)) = ((0 : Nat) : Int) := by decide
    show (bits_Writer_put ((0 : Nat) : Int) (arD .and .i64 0 (W ((shD .shl .i64 1 ((0 : Nat) : Int)) - 1))) (bs.length : Int) (pk bs)).bind _ = _
    rw [e, h]
    rfl
  · exact Signed_ok bs h1 h2 h3 h4 hL

/-- One number of a part, read: what the round does with it. -/
theorem read_part {b : List Int} {y3 : bits_Reader} {p7 : Int × Arr2 Int} {j12 : Int × Int × Int × Int} {j13 : List Int × List Int} {bitsF : Int → List Bool} (hy : y3.m_b = b) (xs l0 : List Int) {p : Nat} {t : List Bool}
    (hlen : W (p7.2.a1 - p7.2.a0) = (xs.length : Int)) (hsz : l0.length + xs.length < 2 ^ 20)
    (hstep : ∀ v, v ∈ xs → ∀ (i p : Nat) (l : List Int) (t : List Bool), i < xs.length → l.length < 2 ^ 20 → (bitsB b).drop p = bitsF v ++ t → p ≤ 8 * b.length → rice_read_L2 y3 p7 j12 j13 ((i : Int), l, 0, (p : Int)) = some (.inl (((i + 1 : Nat) : Int), l ++ [v], 0, ((p + (bitsF v).length : Nat) : Int))))
    (h : (bitsB b).drop p = xs.flatMap bitsF ++ t) (hp : p ≤ 8 * b.length) :
    iter (rice_read_L2 y3 p7 j12 j13) (0, l0, 0, (p : Int)) = some (.inl (0, ((p + (xs.flatMap bitsF).length : Nat) : Int), l0 ++ xs, j13.2, j13.1)) := by
  refine iter_eq (I := fun a : Int × List Int × Int × Int => ∃ m, m ≤ xs.length ∧ a = ((m : Int), l0 ++ xs.take m, 0, ((p + ((xs.take m).flatMap bitsF).length : Nat) : Int))) (m := fun a => xs.length - a.1.toNat) _ (fun a ha => ?_) ⟨0, Nat.zero_le _, by simp⟩ (Nat.lt_of_le_of_lt (Nat.sub_le _ _) (Nat.lt_of_lt_of_le (show xs.length < 2 ^ 20 by omega) (by decide)))
  obtain ⟨m, hm, rfl⟩ := ha
  rcases Nat.lt_or_ge m xs.length with hlt | hge
  · left
    have hx : xs = xs.take m ++ xs[m] :: xs.drop (m + 1) := by rw [← List.drop_eq_getElem_cons hlt, List.take_append_drop]
    have hfm : xs.flatMap bitsF = (xs.take m).flatMap bitsF ++ (bitsF xs[m] ++ (xs.drop (m + 1)).flatMap bitsF) := by
      have := congrArg (List.flatMap bitsF) hx
      rw [List.flatMap_append, List.flatMap_cons] at this
      exact this
    have hd : (bitsB b).drop (p + ((xs.take m).flatMap bitsF).length) = bitsF xs[m] ++ ((xs.drop (m + 1)).flatMap bitsF ++ t) := by
      refine drop_more (x := (xs.take m).flatMap bitsF) ?_
      rw [h, hfm]
      simp only [List.append_assoc]
    have hpm := drop_len (x := (xs.take m).flatMap bitsF) (t := bitsF xs[m] ++ ((xs.drop (m + 1)).flatMap bitsF ++ t)) (b := bitsB b) (p := p) (by
      rw [h, hfm]
      simp only [List.append_assoc]) (by rw [bitsB_length]; exact hp)
    rw [bitsB_length] at hpm
    have ht : xs.take (m + 1) = xs.take m ++ [xs[m]] := List.take_succ_eq_append_getElem hlt
    refine ⟨_, hstep xs[m] (List.getElem_mem hlt) m _ _ _ hlt (by simp; omega) hd hpm, ⟨m + 1, hlt, ?_⟩, ?_⟩
    · rw [ht, List.flatMap_append, List.length_append, List.append_assoc]
      simp [Nat.add_assoc]
    · simp only [Int.toNat_natCast]; omega
  · right
    obtain rfl : m = xs.length := by omega
    rw [List.take_length]
    unfold rice_read_L2
    rw [if_neg]
    · rfl
    · simp only [hlen]
      simp
end Go.Vg

namespace Go.Vg

theorem read_esc {b : List Int} {y3 : bits_Reader} {p7 : Int × Arr2 Int} {j12 : Int × Int × Int × Int} {j13 : List Int × List Int} {n : Nat} (hb : Bytes8 b) (hy : y3.m_b = b) (hl : b.length < 2 ^ 20) {N : Nat} (hN : N < 2 ^ 20) (hlen : W (p7.2.a1 - p7.2.a0) = (N : Int)) (h1 : j12.1 = -1) (h2 : j12.2.2.2 = (n : Int))
    {v : Int} (hv : EscOk n v) {i p : Nat} {l : List Int} {t : List Bool} (hi : i < N) (hl2 : l.length < 2 ^ 20) (h : (bitsB b).drop p = escBits n v ++ t) (hp : p ≤ 8 * b.length) :
    rice_read_L2 y3 p7 j12 j13 ((i : Int), l, 0, (p : Int)) = some (.inl (((i + 1 : Nat) : Int), l ++ [v], 0, ((p + (escBits n v).length : Nat) : Int))) := by
  unfold rice_read_L2
  rw [hlen, if_pos (by simp; omega), if_pos (by rw [h1]; rfl), h2, hy]
  unfold rice_reader_take_x2 rice_read_c1
  rw [if_neg (by simp), signed_any hb hv h hp (by omega)]
  simp only [Option.bind_some]
  rw [app_ok (by simp; omega)]
  simp only [Option.bind_some]
  unfold rice_read_K4
  rw [if_neg (by simp), escBits_length, W_id (by omega) (by omega)]
  rfl
theorem read_coded {b : List Int} {y3 : bits_Reader} {p7 : Int × Arr2 Int} {j12 : Int × Int × Int × Int} {j13 : List Int × List Int} {k : Nat} (hb : Bytes8 b) (hy : y3.m_b = b) (hl : b.length < 2 ^ 20) {N : Nat} (hN : N < 2 ^ 20) (hlen : W (p7.2.a1 - p7.2.a0) = (N : Int)) (h1 : j12.1 = (k : Int)) (hk : k ≤ 30)
    {v : Int} (hv1 : -2147483648 < v) (hv2 : v < 2147483648) (hu : foldN v / 2 ^ k ≤ 65536) {i p : Nat} {l : List Int} {t : List Bool} (hi : i < N) (hl2 : l.length < 2 ^ 20) (h : (bitsB b).drop p = codeBits k v ++ t) (hp : p ≤ 8 * b.length) :
    rice_read_L2 y3 p7 j12 j13 ((i : Int), l, 0, (p : Int)) = some (.inl (((i + 1 : Nat) : Int), l ++ [v], 0, ((p + (codeBits k v).length : Nat) : Int))) := by
  unfold rice_read_L2
  rw [hlen, if_pos (by simp; omega), if_neg (by rw [h1]; simp), h1, hy]
  rw [coded_of hb hk hv1 hv2 hu h hp hl]
  simp only [Option.bind_some]
  rw [app_ok (by simp; omega)]
  simp only [Option.bind_some]
  unfold rice_read_K4
  rw [if_neg (by simp), W_id (by omega) (by omega)]
  rfl

/-- A part, written. -/
theorem write_part {y0 : rice_Plan} {p8 : Int × Arr2 Int} {p11 : Int} {bitsF : Int → List Bool} (xs : List Int) (bs : List Bool) (hsz : xs.length < 2 ^ 20) (hbits : bs.length + (xs.flatMap bitsF).length < 2 ^ 39)
    (hstep : ∀ (i : Nat) (v : Int), xs[i]? = some v → ∀ bs : List Bool, bs.length < 2 ^ 39 → rice_Write_L2 y0 p8 p11 xs ((i : Int), (bs.length : Int), pk bs) = some (.inl (((i + 1 : Nat) : Int), ((bs ++ bitsF v).length : Int), pk (bs ++ bitsF v)))) :
    iter (rice_Write_L2 y0 p8 p11 xs) (0, (bs.length : Int), pk bs) = some (.inl (((bs ++ xs.flatMap bitsF).length : Int), pk (bs ++ xs.flatMap bitsF))) := by
  refine iter_eq (I := fun a : Int × Int × List Int => ∃ m, m ≤ xs.length ∧ a = ((m : Int), ((bs ++ (xs.take m).flatMap bitsF).length : Int), pk (bs ++ (xs.take m).flatMap bitsF))) (m := fun a => xs.length - a.1.toNat) _ (fun a ha => ?_) ⟨0, Nat.zero_le _, by simp⟩ (Nat.lt_of_le_of_lt (Nat.sub_le _ _) (Nat.lt_of_lt_of_le hsz (by decide)))
  obtain ⟨m, hm, rfl⟩ := ha
  rcases Nat.lt_or_ge m xs.length with hlt | hge
  · left
    have hx : xs = xs.take m ++ xs[m] :: xs.drop (m + 1) := by rw [← List.drop_eq_getElem_cons hlt, List.take_append_drop]
    have hfm : xs.flatMap bitsF = (xs.take m).flatMap bitsF ++ (bitsF xs[m] ++ (xs.drop (m + 1)).flatMap bitsF) := by
      have := congrArg (List.flatMap bitsF) hx
      rw [List.flatMap_append, List.flatMap_cons] at this
      exact this
    have ht : xs.take (m + 1) = xs.take m ++ [xs[m]] := List.take_succ_eq_append_getElem hlt
    have hbl : (bs ++ (xs.take m).flatMap bitsF).length < 2 ^ 39 := by
      have := congrArg List.length hfm
      rw [List.length_append] at this
      rw [List.length_append]
      omega
    refine ⟨_, hstep m xs[m] (List.getElem?_eq_getElem hlt) _ hbl, ⟨m + 1, hlt, ?_⟩, ?_⟩
    · rw [ht, List.flatMap_append, List.append_assoc]
      simp
    · simp only [Int.toNat_natCast]; omega
  · right
    obtain rfl : m = xs.length := by omega
    rw [List.take_length]
    unfold rice_Write_L2
    rw [if_neg (by simp)]
    rfl
theorem write_esc {y0 : rice_Plan} {p8 : Int × Arr2 Int} {n : Nat} {xs : List Int} (hn : idx y0.Bits p8.1 = some (n : Int)) (hsz : xs.length < 2 ^ 20) {i : Nat} {v : Int} (hi : xs[i]? = some v) (hv : EscOk n v) (hn48 : n ≤ 48) (bs : List Bool) (hL : bs.length < 2 ^ 39) :
    rice_Write_L2 y0 p8 (-1) xs ((i : Int), (bs.length : Int), pk bs) = some (.inl (((i + 1 : Nat) : Int), ((bs ++ escBits n v).length : Int), pk (bs ++ escBits n v))) := by
  have hlt : i < xs.length := by
    rcases Nat.lt_or_ge i xs.length with h | h
    · exact h
    · rw [List.getElem?_eq_none h] at hi; cases hi
  unfold rice_Write_L2
  rw [if_pos (by simp; omega)]
  simp only [idx_ok hi, Option.bind_some, hn]
  rw [if_pos (by rfl), Signed_any bs hv (by omega)]
  simp only [Option.bind_some]
  unfold rice_Write_K3
  rw [W_id (by omega) (by omega)]
  rfl
theorem write_coded {y0 : rice_Plan} {p8 : Int × Arr2 Int} {k : Nat} {xs : List Int} (hk : k ≤ 30) (hsz : xs.length < 2 ^ 20) {i : Nat} {v : Int} (hi : xs[i]? = some v) (hv1 : -2147483648 < v) (hv2 : v < 2147483648) (hu : foldN v / 2 ^ k ≤ 65536) (bs : List Bool) (hL : bs.length < 2 ^ 39) :
    rice_Write_L2 y0 p8 (k : Int) xs ((i : Int), (bs.length : Int), pk bs) = some (.inl (((i + 1 : Nat) : Int), ((bs ++ codeBits k v).length : Int), pk (bs ++ codeBits k v))) := by
  have hlt : i < xs.length := by
    rcases Nat.lt_or_ge i xs.length with h | h
    · exact h
    · rw [List.getElem?_eq_none h] at hi; cases hi
  have hf : foldN v < 4294967296 := by unfold foldN; split <;> omega
  have p0 : 0 < (2 : Nat) ^ k := Nat.pow_pos (by omega)
  have p1 : (2 : Nat) ^ k ≤ 2 ^ 30 := Nat.pow_le_pow_right (by omega) hk
  unfold rice_Write_L2
  rw [if_pos (by simp; omega)]
  simp only [idx_ok hi, Option.bind_some]
  rw [if_neg (by simp), fold_spec (by omega) (by omega)]
  simp only [Option.bind_some]
  rw [need_ok (by simp)]
  unfold lett
  simp only [shr_nat (show k ≤ 64 by omega), pow_shl (show k ≤ 62 by omega), pow_mask (show k ≤ 62 by omega), and_nat (show foldN v < 9223372036854775808 by omega) (show 2 ^ k - 1 < 9223372036854775808 by omega), Nat.and_two_pow_sub_one_eq_mod]
  rw [Unary_ok bs hu (by omega)]
  simp only [Option.bind_some]
  have hl1 : (bs ++ (List.replicate (foldN v / 2 ^ k) false ++ [true])).length + k < 2 ^ 40 := by simp; omega
  rw [need_ok (by simp), Put_ok _ (by omega) (Nat.mod_lt _ p0) hl1]
  simp only [Option.bind_some]
  unfold rice_Write_K3 codeBits
  rw [W_id (by omega) (by omega)]
  simp only [List.append_assoc]
  rfl
end Go.Vg

namespace Go.Vg

/-- The parameter that says: no parameter. -/
def escN (m : Nat) : Nat := 2 ^ (4 + m) - 1
def PartOk (m : Nat) (par n : Int) (xs : List Int) : Prop :=
  (par = -1 ∧ 0 ≤ n ∧ n ≤ 31 ∧ ∀ v, v ∈ xs → EscOk n.toNat v) ∨ (0 ≤ par ∧ par < escN m ∧ n = 0 ∧ ∀ v, v ∈ xs → -2147483648 < v ∧ v < 2147483648 ∧ foldN v / 2 ^ par.toNat ≤ 65536)
def partBits (m : Nat) (par n : Int) (xs : List Int) : List Bool :=
  if par = -1 then bitsOf (4 + m) (escN m) ++ (bitsOf 5 n.toNat ++ xs.flatMap (escBits n.toNat)) else bitsOf (4 + m) par.toNat ++ xs.flatMap (codeBits par.toNat)
theorem escape_spec {m : Nat} (hm : m ≤ 1) : rice_escape (m : Int) = some (escN m : Int) := by
  rcases (show m = 0 ∨ m = 1 by omega) with rfl | rfl <;> decide
theorem escN_lt (m : Nat) : escN m < 2 ^ (4 + m) := by
  have := Nat.pow_pos (n := 4 + m) (show 0 < 2 by omega)
  unfold escN; omega
theorem escN_le {m : Nat} (hm : m ≤ 1) : escN m ≤ 31 := by
  rcases (show m = 0 ∨ m = 1 by omega) with rfl | rfl <;> decide
theorem w4 {m : Nat} (hm : m ≤ 1) : W (4 + (m : Int)) = ((4 + m : Nat) : Int) := by rw [W_id (by omega) (by omega)]; omega

theorem write_L1 {m : Nat} {y0 : rice_Plan} {y2 : List Int} {p8 : Int × Arr2 Int} {par n : Int} {xs : List Int} (bs : List Bool) (hm : m ≤ 1) (hM : y0.Method = (m : Int)) (hp : idx y0.Params p8.1 = some par) (hn : idx y0.Bits p8.1 = some n)
    (hs : sub y2 p8.2.a0 p8.2.a1 = some xs) (hsz : xs.length < 2 ^ 20) (hok : PartOk m par n xs) (hL : bs.length + (partBits m par n xs).length < 2 ^ 38) :
    rice_Write_L1 y0 y2 p8 ((bs.length : Int), pk bs) = some (.inl (((bs ++ partBits m par n xs).length : Int), pk (bs ++ partBits m par n xs))) := by
  unfold rice_Write_L1
  rw [hp]
  simp only [Option.bind_some, hM]
  rcases hok with ⟨rfl, hn0, hn1, hv⟩ | ⟨hp0, hp1, rfl, hv⟩
  · obtain ⟨q, rfl⟩ := Int.eq_ofNat_of_zero_le hn0
    simp only [Int.toNat_natCast] at hv
    have hb : partBits m (-1) (q : Int) xs = bitsOf (4 + m) (escN m) ++ (bitsOf 5 q ++ xs.flatMap (escBits q)) := by simp [partBits]
    rw [hb] at hL ⊢
    simp only [List.length_append, bitsOf_length] at hL
    rw [if_pos (by rfl), escape_spec hm]
    simp only [Option.bind_some]
    simp only [lett, w4 hm]
    rw [Put_ok bs (by omega) (escN_lt m) (by omega)]
    simp only [Option.bind_some, hn]
    have h5 := Put_ok (v := q) (n := 5) (bs ++ bitsOf (4 + m) (escN m)) (by omega) (by omega) (by rw [List.length_append, bitsOf_length]; omega)
    rw [show (5 : Int) = ((5 : Nat) : Int) from rfl]
    rw [h5]
    simp only [Option.bind_some]
    unfold rice_Write_K2
    rw [hs]
    simp only [Option.bind_some]
    rw [write_part (bitsF := escBits q) xs (bs ++ bitsOf (4 + m) (escN m) ++ bitsOf 5 q) hsz (by simp only [List.length_append, bitsOf_length]; omega) (fun i v hi b2 hb2 => write_esc hn hsz hi (hv v (List.mem_of_getElem? hi)) (by omega) b2 hb2)]
    simp only [List.append_assoc]
  · obtain ⟨k, rfl⟩ := Int.eq_ofNat_of_zero_le hp0
    simp only [Int.toNat_natCast] at hv
    have hk := escN_le hm
    have hb : partBits m (k : Int) 0 xs = bitsOf (4 + m) k ++ xs.flatMap (codeBits k) := by
      unfold partBits
      rw [if_neg (by omega)]
      rfl
    rw [hb] at hL ⊢
    simp only [List.length_append, bitsOf_length] at hL
    rw [if_neg (by simp)]
    simp only [lett, w4 hm]
    rw [Put_ok bs (by omega) (Nat.lt_trans (by omega) (escN_lt m)) (by omega)]
    simp only [Option.bind_some]
    unfold rice_Write_K2
    rw [hs]
    simp only [Option.bind_some]
    rw [write_part (bitsF := codeBits k) xs (bs ++ bitsOf (4 + m) k) hsz (by simp only [List.length_append, bitsOf_length]; omega) (fun i v hi b2 hb2 => write_coded (by omega) hsz hi (hv v (List.mem_of_getElem? hi)).1 (hv v (List.mem_of_getElem? hi)).2.1 (hv v (List.mem_of_getElem? hi)).2.2 b2 hb2)]
    simp only [List.append_assoc]

theorem read_L1 {m : Nat} {b : List Int} {y3 : bits_Reader} {r1 : Int × Int × Int} {p7 : Int × Arr2 Int} {par n : Int} {xs l prs bts : List Int} {p : Nat} {t : List Bool} (hb : Bytes8 b) (hl : b.length < 2 ^ 20) (hm : m ≤ 1) (hy : y3.m_b = b) (hr : r1.1 = (m : Int))
    (hlen : W (p7.2.a1 - p7.2.a0) = (xs.length : Int)) (hsz : l.length + xs.length < 2 ^ 20) (hq : prs.length < 2 ^ 20 ∧ bts.length < 2 ^ 20) (hok : PartOk m par n xs) (h : (bitsB b).drop p = partBits m par n xs ++ t) (hp : p ≤ 8 * b.length) :
    rice_read_L1 y3 r1 p7 (0, (p : Int), l, prs, bts) = some (.inl (0, ((p + (partBits m par n xs).length : Nat) : Int), l ++ xs, prs ++ [par], bts ++ [n])) := by
  unfold rice_read_L1
  simp only [lett, hr, w4 hm, hy]
  have hE := escN_le hm
  rcases hok with ⟨rfl, hn0, hn1, hv⟩ | ⟨hp0, hp1, rfl, hv⟩
  · obtain ⟨q, rfl⟩ := Int.eq_ofNat_of_zero_le hn0
    simp only [Int.toNat_natCast] at hv
    have hbt : partBits m (-1) (q : Int) xs = bitsOf (4 + m) (escN m) ++ (bitsOf 5 q ++ xs.flatMap (escBits q)) := by simp [partBits]
    rw [hbt] at h ⊢
    rw [List.append_assoc, List.append_assoc] at h
    have hd1 := drop_more h
    have hp1 := drop_len h (by rw [bitsB_length]; exact hp)
    rw [bitsOf_length] at hd1 hp1
    rw [bitsB_length] at hp1
    have hd2 := drop_more hd1
    have hp2 := drop_len hd1 (by rw [bitsB_length]; exact hp1)
    rw [bitsOf_length] at hd2 hp2
    rw [bitsB_length] at hp2
    rw [number_of hb (by omega) (escN_lt m) h hp (by omega)]
    simp only [Option.bind_some]
    rw [escape_spec hm]
    simp only [Option.bind_some]
    rw [if_pos (by simp), show (5 : Int) = ((5 : Nat) : Int) from rfl, number_of hb (by omega) (show q < 2 ^ 5 by omega) hd1 hp1 (by omega)]
    simp only [Option.bind_some]
    unfold rice_read_K2 rice_read_K3
    rw [app_ok (by simp; omega)]
    simp only [Option.bind_some]
    rw [app_ok (by simp; omega)]
    simp only [Option.bind_some]
    rw [read_part hy xs l hlen hsz (fun v hv' i p l t hi hl2 h hp => read_esc hb hy hl (by omega) hlen rfl rfl (hv v hv') hi hl2 h hp) hd2 hp2]
    refine congrArg (fun z : Nat => some (Sum.inl (0, (z : Int), l ++ xs, prs ++ [-1], bts ++ [(q : Int)]))) ?_
    simp only [List.length_append, bitsOf_length]
    omega
  · obtain ⟨k, rfl⟩ := Int.eq_ofNat_of_zero_le hp0
    simp only [Int.toNat_natCast] at hv
    have hbt : partBits m (k : Int) 0 xs = bitsOf (4 + m) k ++ xs.flatMap (codeBits k) := by
      unfold partBits
      rw [if_neg (by omega)]
      rfl
    rw [hbt] at h ⊢
    rw [List.append_assoc] at h
    have hd1 := drop_more h
    have hp1' := drop_len h (by rw [bitsB_length]; exact hp)
    rw [bitsOf_length] at hd1 hp1'
    rw [bitsB_length] at hp1'
    rw [number_of hb (by omega) (Nat.lt_trans (by omega) (escN_lt m)) h hp (by omega)]
    simp only [Option.bind_some]
    rw [escape_spec hm]
    simp only [Option.bind_some]
    rw [if_neg (by simp; omega)]
    unfold rice_read_K2 rice_read_K3
    rw [app_ok (by simp; omega)]
    simp only [Option.bind_some]
    rw [app_ok (by simp; omega)]
    simp only [Option.bind_some]
    rw [read_part hy xs l hlen hsz (fun v hv' i p l t hi hl2 h hp => read_coded hb hy hl (by omega) hlen rfl (by omega) (hv v hv').1 (hv v hv').2.1 (hv v hv').2.2 hi hl2 h hp) hd1 hp1']
    refine congrArg (fun z : Nat => some (Sum.inl (0, (z : Int), l ++ xs, prs ++ [(k : Int)], bts ++ [(0 : Int)]))) ?_
    simp only [List.length_append, bitsOf_length]
    omega
end Go.Vg

namespace Go.Vg

/-- A part with all that belongs to it: where it is; its parameter; its escape's bits; its numbers. -/
structure Part where
  e : Int × Arr2 Int
  par : Int
  n : Int
  xs : List Int
def Part.bits (m : Nat) (q : Part) : List Bool := partBits m q.par q.n q.xs

theorem write_parts {m : Nat} {y0 : rice_Plan} {y2 : List Int} (hm : m ≤ 1) (hM : y0.Method = (m : Int)) (qs : List Part) (bs : List Bool)
    (hq : ∀ q, q ∈ qs → idx y0.Params q.e.1 = some q.par ∧ idx y0.Bits q.e.1 = some q.n ∧ sub y2 q.e.2.a0 q.e.2.a1 = some q.xs ∧ q.xs.length < 2 ^ 20 ∧ PartOk m q.par q.n q.xs)
    (hL : bs.length + (qs.flatMap (Part.bits m)).length < 2 ^ 38) (ret : Empty → Option (Int × Int × List Int)) :
    foldR (rice_Write_L1 y0 y2) rice_Write_K4 ret (qs.map Part.e) ((bs.length : Int), pk bs) = some (0, ((bs ++ qs.flatMap (Part.bits m)).length : Int), pk (bs ++ qs.flatMap (Part.bits m))) := by
  induction qs generalizing bs with
  | nil => simp [foldR, rice_Write_K4, rice_Write_K1]
  | cons q qs ih =>
    obtain ⟨h1, h2, h3, h4, h5⟩ := hq q (List.mem_cons_self ..)
    simp only [List.flatMap_cons, List.length_append] at hL
    have hw := write_L1 bs hm hM h1 h2 h3 h4 h5 (by have : (partBits m q.par q.n q.xs).length = (q.bits m).length := rfl; omega)
    rw [List.map_cons, foldR, hw]
    show foldR (rice_Write_L1 y0 y2) rice_Write_K4 ret (qs.map Part.e) (((bs ++ q.bits m).length : Int), pk (bs ++ q.bits m)) = _
    rw [ih (bs ++ q.bits m) (fun q' hq' => hq q' (List.mem_cons_of_mem _ hq')) (by rw [List.length_append]; omega)]
    simp only [List.flatMap_cons, List.append_assoc]

theorem read_parts {m : Nat} {b : List Int} {y3 : bits_Reader} {r1 r2 : Int × Int × Int} (hb : Bytes8 b) (hl : b.length < 2 ^ 20) (hm : m ≤ 1) (hy : y3.m_b = b) (hr : r1.1 = (m : Int)) (qs : List Part) (l prs bts : List Int) {p : Nat} {t : List Bool}
    (hq : ∀ q, q ∈ qs → W (q.e.2.a1 - q.e.2.a0) = (q.xs.length : Int) ∧ PartOk m q.par q.n q.xs)
    (hsz : l.length + (qs.flatMap Part.xs).length < 2 ^ 20) (hp2 : prs.length + qs.length < 2 ^ 20) (hp3 : bts.length + qs.length < 2 ^ 20) (h : (bitsB b).drop p = qs.flatMap (Part.bits m) ++ t) (hp : p ≤ 8 * b.length) :
    foldR (rice_read_L1 y3 r1) (rice_read_K5 r1 r2) (rice_read_K6 r1 r2) (qs.map Part.e) (0, (p : Int), l, prs, bts) = some (l ++ qs.flatMap Part.xs, r1.1, r2.1, prs ++ qs.map Part.par, bts ++ qs.map Part.n, 0, 0, ((p + (qs.flatMap (Part.bits m)).length : Nat) : Int)) := by
  induction qs generalizing l prs bts p with
  | nil => simp [foldR, rice_read_K5, rice_read_K1]
  | cons q qs ih =>
    obtain ⟨h1, h2⟩ := hq q (List.mem_cons_self ..)
    simp only [List.flatMap_cons, List.length_append, List.length_cons] at hsz hp2 hp3
    rw [List.flatMap_cons, List.append_assoc] at h
    have hr1 := read_L1 (r1 := r1) hb hl hm hy hr h1 (l := l) (prs := prs) (bts := bts) (by omega) ⟨by omega, by omega⟩ h2 h hp
    have hd := drop_more h
    have hpl := drop_len h (by rw [bitsB_length]; exact hp)
    rw [bitsB_length] at hpl
    rw [List.map_cons, foldR, hr1]
    show foldR (rice_read_L1 y3 r1) (rice_read_K5 r1 r2) (rice_read_K6 r1 r2) (qs.map Part.e) (0, ((p + (q.bits m).length : Nat) : Int), l ++ q.xs, prs ++ [q.par], bts ++ [q.n]) = _
    rw [ih (l ++ q.xs) (prs ++ [q.par]) (bts ++ [q.n]) (fun q' hq' => hq q' (List.mem_cons_of_mem _ hq')) (by simp only [List.length_append]; omega) (by simp; omega) (by simp; omega) hd hpl]
    simp only [List.flatMap_cons, List.append_assoc, List.map_cons, List.length_append, List.singleton_append, Nat.add_assoc]
end Go.Vg

namespace Go.Vg

def riceBits (m o : Nat) (qs : List Part) : List Bool := bitsOf 2 m ++ (bitsOf 4 o ++ qs.flatMap (Part.bits m))
theorem rice_Write_of {m o : Nat} {y0 : rice_Plan} {y1 sz : Int} {y2 : List Int} {es : List (Int × Arr2 Int)} (hm : m ≤ 1) (ho : o ≤ 15) (hM : y0.Method = (m : Int)) (hO : y0.Order = (o : Int)) (hS : rice_Size y0 y1 y2 = some (sz, 0))
    (hP : partsF (W ((y2.length : Int) + y1)) (o : Int) y1 = some es) (qs : List Part) (he : es = qs.map Part.e) (bs : List Bool)
    (hq : ∀ q, q ∈ qs → idx y0.Params q.e.1 = some q.par ∧ idx y0.Bits q.e.1 = some q.n ∧ sub y2 q.e.2.a0 q.e.2.a1 = some q.xs ∧ q.xs.length < 2 ^ 20 ∧ PartOk m q.par q.n q.xs)
    (hL : bs.length + (riceBits m o qs).length < 2 ^ 38) :
    rice_Write y0 y1 y2 (bs.length : Int) (pk bs) = some (0, ((bs ++ riceBits m o qs).length : Int), pk (bs ++ riceBits m o qs)) := by
  unfold riceBits at hL ⊢
  simp only [List.length_append, bitsOf_length] at hL
  unfold rice_Write
  rw [hS]
  simp only [Option.bind_some]
  rw [if_neg (by decide), hM, hO, show (2 : Int) = ((2 : Nat) : Int) from rfl, Put_ok (v := m) (n := 2) bs (by omega) (by omega) (by omega)]
  simp only [Option.bind_some]
  rw [show (4 : Int) = ((4 : Nat) : Int) from rfl, Put_ok (v := o) (n := 4) (bs ++ bitsOf 2 m) (by omega) (by omega) (by simp only [List.length_append, bitsOf_length]; omega)]
  simp only [Option.bind_some, lett, rice_parts]
  rw [hP]
  simp only [Option.bind_some]
  rw [he, write_parts hm hM qs _ hq (by simp only [List.length_append, bitsOf_length]; omega)]
  simp only [List.append_assoc]

theorem rice_read_of {m o p : Nat} {b : List Int} {y0 y1 : Int} {es : List (Int × Arr2 Int)} {t : List Bool} (hb : Bytes8 b) (hl : b.length < 2 ^ 20) (hm : m ≤ 1) (ho : o ≤ 15) (hH : rice_head (m : Int) (o : Int) y0 y1 = some 0)
    (hP : partsF y0 (o : Int) y1 = some es) (qs : List Part) (he : es = qs.map Part.e)
    (hq : ∀ q, q ∈ qs → W (q.e.2.a1 - q.e.2.a0) = (q.xs.length : Int) ∧ PartOk m q.par q.n q.xs)
    (hsz : (qs.flatMap Part.xs).length < 2 ^ 20) (hp2 : qs.length < 2 ^ 20) (h : (bitsB b).drop p = riceBits m o qs ++ t) (hp : p ≤ 8 * b.length) :
    rice_read y0 y1 0 ⟨⟨(p : Int)⟩, b⟩ = some (qs.flatMap Part.xs, (m : Int), (o : Int), qs.map Part.par, qs.map Part.n, 0, 0, ((p + (riceBits m o qs).length : Nat) : Int)) := by
  unfold riceBits at h ⊢
  rw [List.append_assoc, List.append_assoc] at h
  have hd1 := drop_more h
  have hp1 := drop_len h (by rw [bitsB_length]; exact hp)
  rw [bitsOf_length] at hd1 hp1
  rw [bitsB_length] at hp1
  have hd2 := drop_more hd1
  have hp3 := drop_len hd1 (by rw [bitsB_length]; exact hp1)
  rw [bitsOf_length] at hd2 hp3
  rw [bitsB_length] at hp3
  unfold rice_read
  rw [show (2 : Int) = ((2 : Nat) : Int) from rfl, number_of hb (by omega) (show m < 2 ^ 2 by omega) h hp (by omega)]
  simp only [Option.bind_some]
  rw [if_neg (by simp; omega), show (4 : Int) = ((4 : Nat) : Int) from rfl, number_of hb (by omega) (show o < 2 ^ 4 by omega) hd1 hp1 (by omega)]
  simp only [Option.bind_some]
  rw [if_neg (by decide), hH]
  simp only [Option.bind_some, rice_parts]
  rw [if_neg (by decide), hP]
  simp only [Option.bind_some]
  rw [he, read_parts hb hl hm rfl rfl qs [] [] [] hq (by simpa using hsz) (by simpa using hp2) (by simpa using hp2) hd2 hp3]
  simp only [List.nil_append, List.length_append, bitsOf_length]
  refine congrArg (fun z : Nat => some (qs.flatMap Part.xs, (m : Int), (o : Int), qs.map Part.par, qs.map Part.n, (0 : Int), (0 : Int), (z : Int))) ?_
  omega
end Go.Vg

namespace Go.Vg

theorem fold_flag (v : Int) : ∃ f, rice_fold v = some (f, decide (-2147483648 < v) && decide (v < 2147483648)) := by
  unfold rice_fold
  by_cases h : v < 0
  · rw [if_pos (by simpa using h)]
    have e2 : decide (v < 2147483648) = true := decide_eq_true (by omega)
    exact ⟨_, by rw [e2, Bool.and_true]⟩
  · rw [if_neg (by simpa using h)]
    have e2 : decide (-2147483648 < v) = true := decide_eq_true (by omega)
    exact ⟨_, by rw [e2, Bool.true_and]⟩
theorem one_ok {v par n c : Int} (hp : par = -1 ∨ 0 ≤ par ∧ par ≤ 31) (h : rice_one v par n = some (c, true)) :
    -2147483648 < v ∧ v < 2147483648 ∧ (par = -1 → ∃ w, rice_width v = some w ∧ w ≤ n) ∧ (0 ≤ par → foldN v / 2 ^ par.toNat ≤ 65536) := by
  unfold rice_one at h
  by_cases hv : -2147483648 < v ∧ v < 2147483648
  · refine ⟨hv.1, hv.2, ?_⟩
    rw [fold_spec (by omega) (by omega)] at h
    have e1 : decide (-2147483648 < v) = true := decide_eq_true hv.1
    have e2 : decide (v < 2147483648) = true := decide_eq_true hv.2
    simp only [Option.bind_some, e1, e2] at h
    rw [if_neg (by decide)] at h
    rcases hp with rfl | ⟨h0, h31⟩
    · refine ⟨fun _ => ?_, fun h => by omega⟩
      rw [if_pos (by rfl)] at h
      obtain ⟨w, hw, h⟩ := Option.bind_eq_some_iff.1 h
      refine ⟨w, hw, ?_⟩
      simp only [Option.some.injEq, Prod.mk.injEq, decide_eq_true_eq] at h
      exact h.2
    · refine ⟨fun h => by omega, fun _ => ?_⟩
      obtain ⟨k, rfl⟩ := Int.eq_ofNat_of_zero_le h0
      rw [if_neg (by simp), need_ok (by simp), need_ok (by simp), shr_nat (by omega)] at h
      simp only [Option.some.injEq, Prod.mk.injEq, decide_eq_true_eq] at h
      simp only [Int.toNat_natCast]
      omega
  · exfalso
    obtain ⟨f, hf⟩ := fold_flag v
    rw [hf] at h
    have e : (decide (-2147483648 < v) && decide (v < 2147483648)) = false := by
      rw [Bool.and_eq_false_iff]
      by_cases h1 : -2147483648 < v
      · exact .inr (decide_eq_false fun h2 => hv ⟨h1, h2⟩)
      · exact .inl (decide_eq_false h1)
    simp only [Option.bind_some, e] at h
    rw [if_pos (by decide)] at h
    simp at h
end Go.Vg

namespace Go.Vg

theorem shr1 (x : Int) : shD .shr .i64 x 1 = x / 2 := by
  have : shD .shr .i64 x 1 = x.fdiv 2 := rfl
  rw [this, Int.fdiv_eq_ediv_of_nonneg _ (by decide)]
theorem width_spec {v : Int} (h1 : -2147483648 < v) (h2 : v < 2147483648) : ∃ w, rice_width v = some w ∧ ((w = 0 ∧ v = 0) ∨ ∃ c : Nat, w = (c : Int) + 1 ∧ -(2 : Int) ^ c ≤ v ∧ v < (2 : Int) ^ c) := by
  unfold rice_width
  refine iter_of (I := fun a : Int × Int => ∃ (c : Nat) (x : Int), c ≤ 31 ∧ a = (x, (c : Int)) ∧ (2 : Int) ^ c * x ≤ v ∧ v < (2 : Int) ^ c * (x + 1)) (m := fun a => 40 - a.2.toNat) (Q := fun w => (w = 0 ∧ v = 0) ∨ ∃ c : Nat, w = (c : Int) + 1 ∧ -(2 : Int) ^ c ≤ v ∧ v < (2 : Int) ^ c) (fun a ha => ?_) ⟨0, v, by omega, rfl, by simp, by simp; omega⟩ (show 40 - (0 : Int).toNat < ROUNDS by decide)
  obtain ⟨c, x, hc, rfl, hA, hB⟩ := ha
  have hP : (0 : Int) < (2 : Int) ^ c := Int.pow_pos (by decide)
  unfold rice_width_L1
  by_cases hx : x = 0 ∨ x = -1
  · right
    rw [if_neg (by rcases hx with rfl | rfl <;> simp)]
    unfold rice_width_K1
    by_cases h0 : (c : Int) = 0 ∧ x = 0
    · obtain ⟨hc0, rfl⟩ := h0
      obtain rfl : c = 0 := by omega
      exact ⟨0, rfl, .inl ⟨rfl, by simp at hA hB; omega⟩⟩
    · rw [if_neg]
      · refine ⟨_, rfl, .inr ⟨c, W_id (by omega) (by omega), ?_⟩⟩
        rcases hx with rfl | rfl
        · simp at hA hB; omega
        · simp at hA hB; omega
      · intro h
        split at h
        · rename_i h3
          exact h0 ⟨by simpa using h3, by simpa using h⟩
        · simp at h
  · left
    rw [if_pos (by simp; omega), shr1, W_id (by omega) (by omega)]
    have hx1 : 2 * (x / 2) ≤ x := by omega
    have hx2 : x + 1 ≤ 2 * (x / 2 + 1) := by omega
    have m1 := Int.mul_le_mul_of_nonneg_left hx1 (Int.le_of_lt hP)
    have m2 := Int.mul_le_mul_of_nonneg_left hx2 (Int.le_of_lt hP)
    refine ⟨_, rfl, ⟨c + 1, x / 2, ?_, by simp, ?_, ?_⟩, ?_⟩
    · rcases Nat.lt_or_ge c 31 with h | h
      · omega
      · obtain rfl : c = 31 := by omega
        exfalso
        have e : (2 : Int) ^ 31 = 2147483648 := by decide
        rw [e] at hA hB
        omega
    · rw [Int.pow_succ, Int.mul_assoc]; omega
    · rw [Int.pow_succ, Int.mul_assoc]; omega
    · simp only [Int.toNat_natCast]
      omega
/-- What the width tells: it may be written in so many bits. -/
theorem esc_of_width {v w n : Int} (h1 : -2147483648 < v) (h2 : v < 2147483648) (h : rice_width v = some w) (hn : w ≤ n) (hn31 : n ≤ 31) : EscOk n.toNat v := by
  obtain ⟨w', e, hw⟩ := width_spec h1 h2
  rw [h] at e
  cases e
  rcases hw with ⟨rfl, rfl⟩ | ⟨c, rfl, h3, h4⟩
  · by_cases h0 : n.toNat = 0
    · rw [h0]; exact .inl ⟨rfl, rfl⟩
    · have hP : (0 : Int) < (2 : Int) ^ (n.toNat - 1) := Int.pow_pos (by decide)
      exact .inr ⟨by omega, by omega, by omega, hP⟩
  · have hle : (2 : Nat) ^ c ≤ 2 ^ (n.toNat - 1) := Nat.pow_le_pow_right (by omega) (by omega)
    have e1 : ((2 ^ c : Nat) : Int) = (2 : Int) ^ c := by push_cast; rfl
    have e2 : ((2 ^ (n.toNat - 1) : Nat) : Int) = (2 : Int) ^ (n.toNat - 1) := by push_cast; rfl
    exact .inr ⟨by omega, by omega, by omega, by omega⟩
end Go.Vg

namespace Go.Vg

/-- **A loop that came to an answer**: what holds at each head, and of the answer. -/
theorem iterN_inv {α A : Type} {step : α → Option (α ⊕ A)} (I : α → Prop) (Q : A → Prop) (h1 : ∀ a a', I a → step a = some (.inl a') → I a') (h2 : ∀ a r, I a → step a = some (.inr r) → Q r) :
    ∀ (n : Nat) (a : α) (r : A), I a → iterN step n a = some r → Q r
  | 0, _, _, _, h => nomatch h
  | n + 1, a, r, ha, h => by
    rw [iterN_succ] at h
    match hs : step a, h with
    | some (.inl a'), h => exact iterN_inv I Q h1 h2 n a' r (h1 a a' ha hs) h
    | some (.inr r'), h => cases h; exact h2 a r ha hs
theorem iter_inv {α A : Type} {step : α → Option (α ⊕ A)} (I : α → Prop) (Q : A → Prop) (h1 : ∀ a a', I a → step a = some (.inl a') → I a') (h2 : ∀ a r, I a → step a = some (.inr r) → Q r) {a : α} {r : A} (ha : I a) (h : iter step a = some r) : Q r := iterN_inv I Q h1 h2 _ a r ha h

theorem some_ok {xs : List Int} {par n c : Int} (hl : xs.length < 2 ^ 40) (h : rice_some xs par n = some (c, true)) : ∀ v, v ∈ xs → ∃ d, rice_one v par n = some (d, true) := by
  unfold rice_some at h
  refine iter_inv (I := fun a : Int × Int => ∃ m : Nat, m ≤ xs.length ∧ a.2 = (m : Int) ∧ ∀ i v, i < m → xs[i]? = some v → ∃ d, rice_one v par n = some (d, true)) (Q := fun r : Int × Bool => r.2 = true → ∀ v, v ∈ xs → ∃ d, rice_one v par n = some (d, true)) (fun a a' ha hs => ?_) (fun a r ha hs hr => ?_) ⟨0, Nat.zero_le _, rfl, fun i v hi => absurd hi (Nat.not_lt_zero _)⟩ h rfl
  · obtain ⟨m, hm, e, hall⟩ := ha
    unfold rice_some_L1 at hs
    by_cases hlt : a.2 < (xs.length : Int)
    · rw [if_pos (by simpa using hlt), e] at hs
      have hml : m < xs.length := by omega
      rw [idx_ok (List.getElem?_eq_getElem hml)] at hs
      simp only [Option.bind_some] at hs
      obtain ⟨r4, h4, hs⟩ := Option.bind_eq_some_iff.1 hs
      by_cases hb : r4.2 = true
      · rw [if_neg (by simp [hb])] at hs
        cases hs
        refine ⟨m + 1, hml, ?_, fun i v hi hv => ?_⟩
        · show W ((m : Int) + 1) = _
          rw [W_id (by omega) (by omega)]
          omega
        · rcases Nat.lt_or_ge i m with h5 | h5
          · exact hall i v h5 hv
          · obtain rfl : i = m := by omega
            rw [List.getElem?_eq_getElem hml] at hv
            cases hv
            exact ⟨r4.1, by rw [h4]; exact congrArg some (Prod.ext rfl hb)⟩
      · rw [if_pos (by simp [hb])] at hs
        cases hs
    · rw [if_neg (by simpa using hlt)] at hs
      cases hs
  · obtain ⟨m, hm, e, hall⟩ := ha
    unfold rice_some_L1 at hs
    by_cases hlt : a.2 < (xs.length : Int)
    · rw [if_pos (by simpa using hlt), e] at hs
      have hml : m < xs.length := by omega
      rw [idx_ok (List.getElem?_eq_getElem hml)] at hs
      simp only [Option.bind_some] at hs
      obtain ⟨r4, h4, hs⟩ := Option.bind_eq_some_iff.1 hs
      by_cases hb : r4.2 = true
      · rw [if_neg (by simp [hb])] at hs
        cases hs
      · rw [if_pos (by simp [hb])] at hs
        cases hs
        cases hr
    · intro v hv
      obtain ⟨i, hi, rfl⟩ := List.getElem_of_mem hv
      exact hall i _ (by omega) (List.getElem?_eq_getElem hi)
end Go.Vg

namespace Go.Vg

theorem part_ok {m : Nat} {par n c : Int} {xs : List Int} (hm : m ≤ 1) (hl : xs.length < 2 ^ 40) (hc : (par = -1 ∧ 0 ≤ n ∧ n ≤ 31) ∨ (0 ≤ par ∧ par < escN m ∧ n = 0)) (h : rice_some xs par n = some (c, true)) : PartOk m par n xs := by
  have hE := escN_le hm
  have hall := some_ok hl h
  have hp : par = -1 ∨ 0 ≤ par ∧ par ≤ 31 := by omega
  rcases hc with ⟨rfl, h0, h31⟩ | ⟨h0, h1, rfl⟩
  · refine .inl ⟨rfl, h0, h31, fun v hv => ?_⟩
    obtain ⟨d, hd⟩ := hall v hv
    obtain ⟨a1, a2, a3, _⟩ := one_ok hp hd
    obtain ⟨w, hw, hwn⟩ := a3 rfl
    exact esc_of_width a1 a2 hw hwn h31
  · refine .inr ⟨h0, h1, rfl, fun v hv => ?_⟩
    obtain ⟨d, hd⟩ := hall v hv
    obtain ⟨a1, a2, _, a4⟩ := one_ok hp hd
    exact ⟨a1, a2, a4 h0⟩
/-- What rice.Size's rounds tell of the parts, where its code is 0. -/
theorem size_parts {y0 : rice_Plan} {y2 : List Int} (es : List (Int × Arr2 Int)) (a sz : Int) (h : foldR (rice_Size_L1 y0 y2) rice_Size_K2 rice_Size_K3 es a = some (sz, 0)) :
    ∀ e, e ∈ es → ∃ xs par n c, sub y2 e.2.a0 e.2.a1 = some xs ∧ idx y0.Params e.1 = some par ∧ idx y0.Bits e.1 = some n ∧ rice_some xs par n = some (c, true) := by
  induction es generalizing a with
  | nil => intro e he; cases he
  | cons e0 es ih =>
    intro e he
    rw [foldR] at h
    match hs : rice_Size_L1 y0 y2 e0 a, h with
    | some (.inr q), h =>
      unfold rice_Size_K3 at h
      cases h
    | some (.inl a'), h =>
      rcases List.mem_cons.1 he with rfl | he
      · unfold rice_Size_L1 at hs
        obtain ⟨xs, h1, hs⟩ := Option.bind_eq_some_iff.1 hs
        obtain ⟨par, h2, hs⟩ := Option.bind_eq_some_iff.1 hs
        obtain ⟨n, h3, hs⟩ := Option.bind_eq_some_iff.1 hs
        obtain ⟨r, h4, hs⟩ := Option.bind_eq_some_iff.1 hs
        by_cases hb : r.2 = true
        · exact ⟨xs, par, n, r.1, h1, h2, h3, by rw [h4]; exact congrArg some (Prod.ext rfl hb)⟩
        · rw [if_pos (by simp [hb])] at hs
          cases hs
      · exact ih a' h e he
end Go.Vg

namespace Go.Vg

/-- A plan's parameter and escape's bits, as they may be. -/
def ParOk (m : Nat) (par n : Int) : Prop := (par = -1 ∧ 0 ≤ n ∧ n ≤ 31) ∨ (0 ≤ par ∧ par < escN m ∧ n = 0)
theorem check_L1 {m : Nat} {y0 : rice_Plan} (hm : m ≤ 1) (hM : y0.Method = (m : Int)) {i : Nat} (hi : (i : Int) < (y0.Params.length : Int)) {a' : Int} (h : rice_Check_L1 y0 (i : Int) = some (.inl a')) :
    a' = W ((i : Int) + 1) ∧ ∃ par n, idx y0.Params (i : Int) = some par ∧ idx y0.Bits (i : Int) = some n ∧ ParOk m par n := by
  unfold rice_Check_L1 rice_Check_K3 at h
  rw [if_pos (by simpa using hi)] at h
  obtain ⟨par, h1, h⟩ := Option.bind_eq_some_iff.1 h
  have two : ∀ {x : Option (Int ⊕ Int)}, (x = if decide (par ≥ 0) = true then (rice_escape y0.Method).bind fun r => if decide (par < r) = true then (idx y0.Bits (i : Int)).bind fun p => if (p == 0) = true then some (.inl (W ((i : Int) + 1))) else Option.map .inr (some (10 : Int)) else Option.map .inr (some (10 : Int)) else Option.map .inr (some (10 : Int))) → x = some (.inl a') → a' = W ((i : Int) + 1) ∧ ∃ par n, idx y0.Params (i : Int) = some par ∧ idx y0.Bits (i : Int) = some n ∧ ParOk m par n := by
    intro x hx h
    rw [hx, hM, escape_spec hm] at h
    by_cases c1 : par ≥ 0
    · rw [if_pos (by simpa using c1)] at h
      simp only [Option.bind_some] at h
      by_cases c2 : par < (escN m : Int)
      · rw [if_pos (by simpa using c2)] at h
        obtain ⟨n, h2, h⟩ := Option.bind_eq_some_iff.1 h
        by_cases c3 : n = 0
        · rw [if_pos (by simpa using c3)] at h
          cases h
          exact ⟨rfl, par, n, h1, h2, .inr ⟨c1, c2, c3⟩⟩
        · rw [if_neg (by simpa using c3)] at h
          cases h
      · rw [if_neg (by simpa using c2)] at h
        cases h
    · rw [if_neg (by simpa using c1)] at h
      cases h
  by_cases c0 : par = -1
  · rw [if_pos (by simpa using c0)] at h
    obtain ⟨n, h2, h⟩ := Option.bind_eq_some_iff.1 h
    by_cases c1 : n ≥ 0
    · rw [if_pos (by simpa using c1), h2] at h
      simp only [Option.bind_some] at h
      by_cases c2 : n ≤ 31
      · rw [if_pos (by simpa using c2)] at h
        cases h
        exact ⟨rfl, par, n, h1, h2, .inl ⟨c0, c1, c2⟩⟩
      · rw [if_neg (by simpa using c2)] at h
        refine two ?_ h
        rw [h2]; rfl
    · rw [if_neg (by simpa using c1)] at h
      exact two rfl h
  · rw [if_neg (by simpa using c0)] at h
    exact two rfl h
theorem check_ok {m : Nat} {y0 : rice_Plan} (hm : m ≤ 1) (hM : y0.Method = (m : Int)) (hl : y0.Params.length < 2 ^ 40) (h : iter (rice_Check_L1 y0) 0 = some 0) :
    ∀ i : Nat, i < y0.Params.length → ∃ par n, idx y0.Params (i : Int) = some par ∧ idx y0.Bits (i : Int) = some n ∧ ParOk m par n := by
  refine iter_inv (I := fun a : Int => ∃ k : Nat, k ≤ y0.Params.length ∧ a = (k : Int) ∧ ∀ i : Nat, i < k → ∃ par n, idx y0.Params (i : Int) = some par ∧ idx y0.Bits (i : Int) = some n ∧ ParOk m par n) (Q := fun r : Int => r = 0 → ∀ i : Nat, i < y0.Params.length → ∃ par n, idx y0.Params (i : Int) = some par ∧ idx y0.Bits (i : Int) = some n ∧ ParOk m par n) (fun a a' ha hs => ?_) (fun a r ha hs hr => ?_) ⟨0, Nat.zero_le _, rfl, fun i hi => absurd hi (Nat.not_lt_zero _)⟩ h rfl
  · obtain ⟨k, hk, rfl, hall⟩ := ha
    by_cases hlt : k < y0.Params.length
    · obtain ⟨e, hq⟩ := check_L1 hm hM (by omega) hs
      refine ⟨k + 1, hlt, ?_, fun i hi => ?_⟩
      · rw [e, W_id (by omega) (by omega)]; omega
      · rcases Nat.lt_or_ge i k with h5 | h5
        · exact hall i h5
        · obtain rfl : i = k := by omega
          exact hq
    · unfold rice_Check_L1 at hs
      rw [if_neg (by simp; omega)] at hs
      cases hs
  · obtain ⟨k, hk, rfl, hall⟩ := ha
    by_cases hlt : k < y0.Params.length
    · exfalso
      subst hr
      unfold rice_Check_L1 rice_Check_K3 at hs
      rw [if_pos (by simp; omega)] at hs
      obtain ⟨par, h1, hs⟩ := Option.bind_eq_some_iff.1 hs
      have hE := escape_spec hm
      rw [hM, hE] at hs
      simp only [Option.bind_some] at hs
      cases hB : idx y0.Bits (k : Int) with
      | none => rw [hB] at hs; simp only [Option.bind_none] at hs; (repeat' (split at hs)) <;> cases hs
      | some n => rw [hB] at hs; simp only [Option.bind_some] at hs; (repeat' (split at hs)) <;> cases hs
    · exact fun i hi => hall i (by omega)
end Go.Vg

namespace Go.Vg

theorem parts_upto {α : Type} (xs : List α) (s skip : Nat) (k : Nat) : (List.range k).flatMap (fun i => (xs.drop (i * s - skip)).take (((i + 1) * s - skip) - (i * s - skip))) = xs.take (k * s - skip) := by
  induction k with
  | zero => simp
  | succ k ih =>
    rw [List.range_succ, List.flatMap_append, ih, List.flatMap_cons, List.flatMap_nil, List.append_nil]
    have h : k * s ≤ (k + 1) * s := Nat.mul_le_mul_right _ (Nat.le_succ k)
    rw [← List.take_add]
    congr 1
    omega
theorem parts_all {α : Type} (xs : List α) (s skip n : Nat) (h : xs.length + skip = n * s) : (List.range n).flatMap (fun i => (xs.drop (i * s - skip)).take (((i + 1) * s - skip) - (i * s - skip))) = xs := by
  rw [parts_upto, List.take_of_length_le (by omega)]
end Go.Vg

namespace Go.Vg

theorem W_back {p t : Int} (h1 : -9223372036854775808 ≤ p) (h2 : p ≤ 9223372036854775807) : W (W (p - t) + t) = p := by
  simp only [W, IntKind.wrap, IntKind.bits, IntKind.signed]
  simp
  omega
end Go.Vg
