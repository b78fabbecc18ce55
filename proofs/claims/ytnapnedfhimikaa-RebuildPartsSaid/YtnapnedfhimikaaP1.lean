/- A part of the proof. -/
import Derived.Test.YtnapnedfhimikaaF1
import Derived.Test.YtnapnedfhimikaaVhP
import Derived.KernelRfl
set_option maxRecDepth 4000
set_option linter.all false
set_option linter.unusedVariables false
set_option linter.unusedSimpArgs false
namespace Go.Vg
open Go

theorem ints_eq (a b : List Int) (hl : (a.length : Int) ≤ 9223372036854775807) : jetsamlaw19_ints a b = some (decide (a = b)) := by
  unfold jetsamlaw19_ints
  by_cases h : a.length = b.length
  · rw [if_neg (by simp; omega)]
    refine iter_eq (fun i : Int => 0 ≤ i ∧ i ≤ a.length ∧ a.take i.toNat = b.take i.toNat) (fun i => (a.length - i).toNat) _ (fun i ⟨h0, h1, h2⟩ => ?_) ⟨by omega, by omega, by simp⟩ (lt_ROUNDS (by omega))
    obtain ⟨n, rfl⟩ := Int.eq_ofNat_of_zero_le h0
    simp only [jetsamlaw19_ints_L1]
    by_cases hn : n < a.length
    · rw [if_pos (by simpa using hn)]
      have e1 : a[n]? = some a[n] := List.getElem?_eq_getElem hn
      have e2 : b[n]? = some b[n] := List.getElem?_eq_getElem (by omega)
      rw [idx_ok e1, idx_ok e2]
      simp only [Option.bind_some]
      by_cases hc : a[n] = b[n]
      · left
        rw [if_neg (by simp [hc])]
        refine ⟨_, rfl, ⟨?_, ?_, ?_⟩, ?_⟩ <;> rw [W_id (by omega) (by omega)]
        · omega
        · omega
        · have : ((n : Int) + 1).toNat = n + 1 := by omega
          have h2 : a.take n = b.take n := by simpa using h2
          rw [this, List.take_add_one, List.take_add_one, e1, e2, hc, h2]
        · omega
      · right
        rw [if_pos (by simp [hc])]
        have : a ≠ b := fun e => hc (by simp [e])
        simp [this]
    · right
      rw [if_neg (by simp; omega)]
      have : a = b := by
        have : a.take n = b.take n := by simpa using h2
        rwa [List.take_of_length_le (by omega), List.take_of_length_le (by omega)] at this
      simp [jetsamlaw19_ints_K1, this]
  · rw [if_pos (by simp; omega)]
    have : a ≠ b := fun e => h (by rw [e])
    simp [this]

/-! ### The reference -/
def cdiv (left : Int) (i : Nat) : Int := if left ≤ 0 then 0 else (left + i - 1) / i
def refGo : Nat → Int → List Int
  | 0, _ => []
  | i + 1, left => cdiv left (i + 1) :: refGo i (left - cdiv left (i + 1))
def refParts (m : Int) : List Int := refGo (cdiv m 4096).toNat m

theorem cdiv_of {left : Int} {i k : Nat} (h1 : ¬ (k * i : Int) < left) (h2 : k = 0 ∨ ((k - 1 : Int) * i < left)) (hi : 0 < i) : (k : Int) = cdiv left i := by
  unfold cdiv
  split
  · rcases h2 with h2 | h2
    · omega
    · rcases Nat.eq_zero_or_pos k with h | h
      · omega
      · have : (0 : Int) ≤ (k - 1 : Int) * i := Int.mul_nonneg (by omega) (by omega)
        omega
  · rename_i hl
    have hk : 0 < k := by
      rcases Nat.eq_zero_or_pos k with h | h
      · subst h; simp at h1; omega
      · exact h
    have h2 := h2.resolve_left (by omega)
    symm
    rw [Int.ediv_eq_iff_of_pos (by omega)]
    have : ((k : Int) - 1) * i = k * i - i := by rw [Int.sub_mul, Int.one_mul]
    generalize (k : Int) * i = q at *
    omega

theorem cdiv_bounds (left : Int) (i : Nat) (hi : 0 < i) : 0 ≤ cdiv left i ∧ (cdiv left i ≤ left ∨ cdiv left i = 0) := by
  unfold cdiv
  split
  · omega
  · have h1 : 0 ≤ (left + i - 1) / i := Int.ediv_nonneg (by omega) (by omega)
    have h2 : (left + i - 1) / i ≤ left := by
      have : (left + i - 1) / i < left + 1 := by
        rw [Int.ediv_lt_iff_lt_mul (by omega)]
        have : (left + 1) * 1 ≤ (left + 1) * (i : Int) := Int.mul_le_mul_of_nonneg_left (by omega) (by omega)
        have e : (left + 1) * (i : Int) = left * i + i := by rw [Int.add_mul, Int.one_mul]
        have : left * 1 ≤ left * (i : Int) := Int.mul_le_mul_of_nonneg_left (by omega) (by omega)
        omega
      omega
    omega

/-- So many of one more, the others. -/
theorem refGo_eq : ∀ (i : Nat) (q : Int) (r : Nat), 0 ≤ q → r ≤ i → refGo i (q * i + r) = List.replicate r (q + 1) ++ List.replicate (i - r) q
  | 0, q, r, _, h => by simp at h; subst h; simp [refGo]
  | i + 1, q, r, hq, h => by
    have hqi : 0 ≤ q * (i + 1 : Nat) := Int.mul_nonneg hq (by omega)
    simp only [refGo]
    cases r with
    | zero =>
      have hc : cdiv (q * (i + 1 : Nat) + (0 : Nat)) (i + 1) = q := by
        unfold cdiv
        split
        · rename_i hz
          have : q * (i + 1 : Nat) = 0 := by omega
          rcases Int.mul_eq_zero.1 this with h | h <;> omega
        · rw [Int.ediv_eq_iff_of_pos (by omega)]
          constructor
          · omega
          · push_cast; omega
      rw [hc]
      have e : q * (i + 1 : Nat) + (0 : Nat) - q = q * i + (0 : Nat) := by push_cast; rw [Int.mul_add]; omega
      rw [e, refGo_eq i q 0 hq (by omega)]
      simp [List.replicate_succ]
    | succ r =>
      have hc : cdiv (q * (i + 1 : Nat) + (r + 1 : Nat)) (i + 1) = q + 1 := by
        unfold cdiv
        rw [if_neg (by push_cast at *; omega), Int.ediv_eq_iff_of_pos (by omega)]
        have : (q + 1) * ((i + 1 : Nat) : Int) = q * (i + 1 : Nat) + (i + 1 : Nat) := by rw [Int.add_mul, Int.one_mul]
        constructor
        · rw [this]; push_cast; omega
        · rw [this]; push_cast at *; omega
      rw [hc]
      have e : q * (i + 1 : Nat) + (r + 1 : Nat) - (q + 1) = q * i + r := by push_cast; rw [Int.mul_add]; omega
      rw [e, refGo_eq i q r hq (by omega)]
      simp [List.replicate_succ, Nat.succ_sub_succ]

theorem refParts_eq (m : Int) (hm : m ≤ 50000) (hml : -9223372036854775808 ≤ m) : jetsamref19_Parts m = some (refParts m) := by
  unfold jetsamref19_Parts
  refine iter_eq (fun k : Int => 0 ≤ k ∧ k ≤ 13 ∧ (k = 0 ∨ (k - 1) * 4096 < m)) (fun k => (13 - k).toNat) _ (fun k ⟨h0, h1, h2⟩ => ?_) ⟨by omega, by omega, .inl rfl⟩ (lt_ROUNDS (by omega))
  obtain ⟨n, rfl⟩ := Int.eq_ofNat_of_zero_le h0
  simp only [jetsamref19_Parts_L3]
  rw [W_id (by omega) (by omega)]
  by_cases hc : 4096 * (n : Int) < m
  · left
    rw [if_pos (by simpa using hc)]
    refine ⟨_, rfl, ⟨?_, ?_, .inr ?_⟩, ?_⟩ <;> rw [W_id (by omega) (by omega)] <;> omega
  · right
    rw [if_neg (by simpa using hc)]
    have hnc : (n : Int) = cdiv m 4096 := cdiv_of (left := m) (i := 4096) (k := n) (by simp; omega) (by
      rcases h2 with h | h
      · left; omega
      · right; simpa using h) (by omega)
    have hRn : refParts m = refGo n m := by rw [refParts, ← hnc]; simp
    rw [hRn]
    simp only [jetsamref19_Parts_K1]
    have : iter jetsamref19_Parts_L1 (m, (n : Int), []) = some (refGo n m) := by
      refine iter_eq (fun q : Int × Int × List Int => ∃ i : Nat, q.2.1 = i ∧ i ≤ 13 ∧ q.1 ≤ 50000 ∧ -9223372036854775808 ≤ q.1 ∧ refGo n m = q.2.2 ++ refGo i q.1 ∧ q.2.2.length + i = n) (fun q => q.2.1.toNat) _ (fun q hq => ?_) ⟨n, rfl, by omega, hm, hml, by simp, by simp⟩ (lt_ROUNDS (by simp; omega))
      obtain ⟨left, i', out⟩ := q
      obtain ⟨i, rfl, hi1, hl1, hl2, hRo, hol⟩ := hq
      simp only at hi1 hl1 hl2 hRo hol
      simp only [jetsamref19_Parts_L1]
      by_cases hi : 0 < i
      · left
        rw [if_pos (by simp; omega)]
        have inner : iter (jetsamref19_Parts_L2 (left, (i : Int), out)) 0 = some (.inl (left - cdiv left i, (i : Int) - 1, out ++ [cdiv left i])) := by
          refine iter_eq (fun k : Int => 0 ≤ k ∧ k ≤ 50001 ∧ (k = 0 ∨ (k - 1) * i < left)) (fun k => (50001 - k).toNat) _ (fun k ⟨k0, k1, k2⟩ => ?_) ⟨by omega, by omega, .inl rfl⟩ (lt_ROUNDS (by omega))
          obtain ⟨k, rfl⟩ := Int.eq_ofNat_of_zero_le k0
          have hki : (k : Int) * i ≤ 50001 * 13 := by
            have h9 := Nat.mul_le_mul (show k ≤ 50001 by omega) hi1
            have h8 : ((k * i : Nat) : Int) ≤ 650013 := by omega
            rw [Int.natCast_mul] at h8
            omega
          have hki0 : 0 ≤ (k : Int) * i := Int.mul_nonneg (by omega) (by omega)
          have hkl : (k : Int) ≤ k * i := by
            have : (k : Int) * 1 ≤ k * i := Int.mul_le_mul_of_nonneg_left (by omega) (by omega)
            omega
          simp only [jetsamref19_Parts_L2]
          rw [W_id (by omega) (by omega)]
          by_cases hc : (k : Int) * i < left
          · left
            rw [if_pos (by simpa using hc)]
            refine ⟨_, rfl, ⟨?_, ?_, .inr ?_⟩, ?_⟩ <;> rw [W_id (by omega) (by omega)]
            · omega
            · omega
            · simpa using hc
            · omega
          · right
            rw [if_neg (by simpa using hc)]
            have hkc : (k : Int) = cdiv left i := cdiv_of (by simpa using hc) (by
              rcases k2 with h | h
              · left; omega
              · right; simpa using h) hi
            have hnn : 0 ≤ left - k ∨ k = 0 := by
              rcases Nat.eq_zero_or_pos k with h0 | h0
              · exact .inr h0
              · left
                have h := k2.resolve_left (by omega)
                have : ((k : Int) - 1) * 1 ≤ ((k : Int) - 1) * (i : Int) := Int.mul_le_mul_of_nonneg_left (by omega) (by omega)
                omega
            simp only [jetsamref19_Parts_K4, jetsamref19_Parts_K3]
            rw [app_ok (by simp; omega), Option.bind_some, W_id (by omega) (by omega), W_id (by omega) (by omega), ← hkc]
            rfl
        refine ⟨_, inner, ⟨i - 1, ?_, by omega, ?_, ?_, ?_, ?_⟩, ?_⟩
        · simp only; omega
        · have := cdiv_bounds left i hi
          simp only; omega
        · have := cdiv_bounds left i hi
          simp only; omega
        · obtain ⟨j, rfl⟩ : ∃ j, i = j + 1 := ⟨i - 1, by omega⟩
          simp [hRo, refGo]
        · simp; omega
        · simp only; omega
      · right
        rw [if_neg (by simp; omega)]
        have : i = 0 := by omega
        subst this
        simp [jetsamref19_Parts_K2, hRo, refGo]
    rw [this]; rfl

/-! ### The library's Repeat -/
theorem wrapu {x : Int} (h1 : 0 ≤ x) (h2 : x ≤ 18446744073709551615) : IntKind.u64.wrap x = x := wrap_id (by rw [has_iff]; exact ⟨h1, h2⟩)
theorem shr32 {a : Int} (h0 : 0 ≤ a) (h1 : a < 4294967296) : shD .shr .u64 a 32 = 0 := by
  have : (2 : Int) ^ (min (32 : Int).toNat IntKind.u64.bits) = 4294967296 := by decide
  simp only [shD, this]
  rw [Int.fdiv_eq_ediv_of_nonneg _ (by decide)]
  omega
theorem shr32' {a : Int} : shD .shr .u64 a 32 = a / 4294967296 := by
  have : (2 : Int) ^ (min (32 : Int).toNat IntKind.u64.bits) = 4294967296 := by decide
  simp only [shD, this]
  rw [Int.fdiv_eq_ediv_of_nonneg _ (by decide)]
theorem and32 {a : Int} (h0 : 0 ≤ a) (h1 : a < 4294967296) : arD .and .u64 a 4294967295 = a := by
  obtain ⟨n, rfl⟩ := Int.eq_ofNat_of_zero_le h0
  have h : (BitVec.ofInt 64 (n : Int) &&& BitVec.ofInt 64 4294967295).toNat = n := by
    rw [BitVec.toNat_and]
    have e1 : (BitVec.ofInt 64 (n : Int)).toNat = n := by rw [BitVec.toNat_ofInt]; omega
    have e2 : (BitVec.ofInt 64 4294967295).toNat = 2 ^ 32 - 1 := by decide
    rw [e1, e2, Nat.and_two_pow_sub_one_eq_mod]
    omega
  show IntKind.u64.wrap ((BitVec.ofInt 64 (n : Int) &&& BitVec.ofInt 64 4294967295).toNat : Int) = n
  rw [h]
  exact wrapu (by omega) (by omega)
theorem mul_eq {x y : Int} (hx : 0 ≤ x) (hy : 0 ≤ y) (hx2 : x < 4294967296) (hy2 : y < 4294967296) : math_bits_Mul x y = some (0, x * y) := by
  have hxy0 : 0 ≤ x * y := Int.mul_nonneg hx hy
  have hxy : x * y ≤ 4294967295 * 4294967295 := Int.mul_le_mul (by omega) (by omega) hy (by omega)
  have hd0 : 0 ≤ x * y / 4294967296 := by omega
  have hd1 : x * y / 4294967296 < 4294967296 := by omega
  simp only [math_bits_Mul, math_bits_Mul64, Option.bind_some, shr32 hx hx2, shr32 hy hy2, and32 hx hx2, and32 hy hy2, Int.zero_mul, Int.mul_zero]
  rw [wrapu hxy0 (by omega), shr32' (a := x * y), wrapu (x := 0) (by omega) (by omega)]
  simp only [Int.zero_add, Int.add_zero, wrapu hd0 (by omega), and32 hd0 hd1, shr32 hd0 hd1, wrapu (x := 0) (by omega) (by omega)]

theorem repeat_eq (v : Int) (n : Nat) (h1 : 0 < n) (h2 : n ≤ 1000000) : slices_Repeat_sint_int [v] n = some (List.replicate n v) := by
  unfold slices_Repeat_sint_int
  rw [if_neg (by simp)]
  rw [show ((([v] : List Int).length : Int)) = 1 from rfl, wrapu (x := 1) (by omega) (by omega), wrapu (x := (n : Int)) (by omega) (by omega), mul_eq (by omega) (by omega) (by omega) (by omega)]
  simp only [Option.bind_some, Int.one_mul]
  rw [if_neg (by simp; omega), W_id (by omega) (by omega), mks_ok (by omega) (by unfold LIM; omega), Option.bind_some]
  obtain ⟨m, rfl⟩ : ∃ m, n = m + 1 := ⟨n - 1, by omega⟩
  have hc : cpq (List.replicate (m + 1) (0 : Int)) 0 ((List.replicate (m + 1) (0 : Int)).length : Int) [v] = some (v :: List.replicate m 0, 1) := by
    unfold cpq
    rw [if_pos ⟨by omega, by simp; omega⟩]
    simp [List.replicate_succ]
  rw [hc, Option.bind_some, if_pos (by simp)]
  refine iter_eq (fun a : Int × List Int => ∃ k : Nat, a.1 = k ∧ 1 ≤ k ∧ k ≤ m + 1 ∧ a.2 = List.replicate k v ++ List.replicate (m + 1 - k) 0) (fun a => (m + 1 - a.1).toNat) _ (fun a ha => ?_) ⟨1, rfl, by omega, by omega, by simp⟩ (lt_ROUNDS (by simp; omega))
  obtain ⟨k', l⟩ := a
  obtain ⟨k, rfl, k1, k2, rfl⟩ := ha
  simp only [slices_Repeat_sint_int_L2]
  have hlen : (List.replicate k v ++ List.replicate (m + 1 - k) (0 : Int)).length = m + 1 := by simp; omega
  rw [hlen]
  by_cases hk : k < m + 1
  · left
    rw [if_pos (by simp; omega)]
    have s1 : sub (List.replicate k v ++ List.replicate (m + 1 - k) (0 : Int)) (k : Int) ((m + 1 : Nat) : Int) = some (List.replicate (m + 1 - k) 0) := by
      rw [sub_ok (by omega) (by omega)]
      simp
    have s2 : sub (List.replicate k v ++ List.replicate (m + 1 - k) (0 : Int)) 0 (k : Int) = some (List.replicate k v) := by
      have := sub_ok (l := List.replicate k v ++ List.replicate (m + 1 - k) (0 : Int)) (i := 0) (j := k) (by omega) (by omega)
      simpa using this
    rw [s1, Option.bind_some, s2, Option.bind_some]
    have hsrc : ((List.replicate k v ++ List.replicate (m + 1 - k) (0 : Int)).drop (0 : Int).toNat).take ((k : Int) - 0 : Int).toNat = List.replicate k v := by simp
    rw [hsrc]
    have hm : (((m + 1 : Nat) : Int) - k).toNat = m + 1 - k := by omega
    have hc : cpq (List.replicate k v ++ List.replicate (m + 1 - k) (0 : Int)) (k : Int) (((m + 1 : Nat) : Int) - k) (List.replicate k v) = some (List.replicate (k + min k (m + 1 - k)) v ++ List.replicate (m + 1 - (k + min k (m + 1 - k))) 0, min k (m + 1 - k)) := by
      unfold cpq
      rw [if_pos (by omega), hm]
      congr 1
      simp only [List.length_replicate, Int.toNat_natCast, List.take_replicate, Prod.mk.injEq, and_true]
      rw [List.take_append_of_le_length (by simp), List.take_of_length_le (by simp), List.drop_append, List.drop_of_length_le (by simp)]
      simp only [List.length_replicate, List.nil_append, List.drop_replicate, ← List.append_assoc, List.replicate_append_replicate]
      congr 2 <;> omega
    rw [hc, Option.bind_some, if_pos (by simp; omega)]
    refine ⟨_, rfl, ⟨k + min k (m + 1 - k), ?_, by omega, by omega, rfl⟩, ?_⟩
    · simp only; rw [W_id (by omega) (by omega)]; omega
    · simp only; rw [W_id (by omega) (by omega)]; omega
  · right
    rw [if_neg (by simp; omega)]
    have : k = m + 1 := by omega
    subst this
    simp [slices_Repeat_sint_int_K2]

/-! ### The program -/
theorem parts_eq (m : Int) (hm : m ≤ 50000) (hml : -9223372036854775808 ≤ m) : rebuild_Parts m = some (refParts m) := by
  unfold rebuild_Parts
  by_cases h0 : m ≤ 0
  · rw [if_pos (by simpa using h0)]
    have : cdiv m 4096 = 0 := by unfold cdiv; rw [if_pos h0]
    simp [refParts, this, refGo]
  · rw [if_neg (by simpa using h0)]
    have hn : W ((W ((W (m + 4096)) - 1)).tdiv 4096) = cdiv m 4096 := by
      rw [W_id (x := m + 4096) (by omega) (by omega), W_id (x := m + 4096 - 1) (by omega) (by omega), Int.tdiv_eq_ediv_of_nonneg (by omega), W_id (by omega) (by omega)]
      unfold cdiv
      rw [if_neg h0]
      rfl
    have hn0 : 0 < cdiv m 4096 ∧ cdiv m 4096 ≤ 13 := by
      unfold cdiv; rw [if_neg h0]; omega
    obtain ⟨n, hnn⟩ := Int.eq_ofNat_of_zero_le (show 0 ≤ cdiv m 4096 by omega)
    rw [hn, need_ok (bne_iff_ne.2 (by omega)), hnn]
    have hq0 : 0 ≤ m / n := Int.ediv_nonneg (by omega) (by omega)
    have hq1 : m / n ≤ m := Int.ediv_le_self _ (by omega)
    have hr0 : 0 ≤ m % n := Int.emod_nonneg _ (by omega)
    have hr1 : m % n < n := Int.emod_lt_of_pos _ (by omega)
    have e1 : W (m.tdiv (n : Int)) = m / n := by rw [Int.tdiv_eq_ediv_of_nonneg (by omega), W_id (by omega) (by omega)]
    rw [e1, repeat_eq _ n (by omega) (by omega), Option.bind_some, need_ok (bne_iff_ne.2 (by omega))]
    obtain ⟨r, hr⟩ := Int.eq_ofNat_of_zero_le hr0
    have hrn : r < n := by omega
    have hR : refParts m = List.replicate r (m / n + 1) ++ List.replicate (n - r) (m / n) := by
      have : m = m / n * n + (r : Nat) := by have := Int.mul_ediv_add_emod m n; rw [hr] at this; rw [Int.mul_comm]; omega
      unfold refParts
      rw [hnn]
      conv => lhs; rw [this]
      have h9 := refGo_eq n (m / n) r hq0 (by omega)
      rw [← this] at h9 ⊢
      simpa using h9
    rw [hR]
    refine iter_eq (fun a : Int × List Int => ∃ k : Nat, a.1 = k ∧ k ≤ r ∧ a.2 = List.replicate k (m / n + 1) ++ List.replicate (n - k) (m / n)) (fun a => (r - a.1).toNat) _ (fun a ha => ?_) ⟨0, rfl, by omega, by simp⟩ (lt_ROUNDS (by simp; omega))
    obtain ⟨k', l⟩ := a
    obtain ⟨k, rfl, k2, rfl⟩ := ha
    simp only [rebuild_Parts_L1]
    rw [hn, hnn]
    have e2 : m.tmod (n : Int) = r := by rw [Int.tmod_eq_emod_of_nonneg (by omega)]; exact hr
    rw [e2]
    have hlen : (List.replicate k (m / n + 1) ++ List.replicate (n - k) (m / n)).length = n := by simp; omega
    by_cases hk : k < r
    · left
      rw [if_pos (by simpa using hk), hlen, need_ok (by simp), need_ok (by simp; omega)]
      have hi : (List.replicate k (m / n + 1) ++ List.replicate (n - k) (m / n))[k]? = some (m / n) := by
        rw [List.getElem?_append_right (by simp), List.length_replicate, Nat.sub_self, List.getElem?_replicate, if_pos (by omega)]
      rw [idx_ok hi, Option.bind_some, need_ok (by simp), need_ok (by simp; omega)]
      refine ⟨_, rfl, ⟨k + 1, ?_, by omega, ?_⟩, ?_⟩
      · simp only; rw [W_id (by omega) (by omega)]; rfl
      · simp only [Int.toNat_natCast]
        rw [W_id (by omega) (by omega), List.set_append_right _ _ (by simp)]
        obtain ⟨j, hj⟩ : ∃ j, n - k = j + 1 := ⟨n - k - 1, by omega⟩
        rw [hj, List.length_replicate, Nat.sub_self, List.replicate_succ, List.set_cons_zero, show n - (k + 1) = j by omega, List.replicate_succ' (n := k), List.append_assoc]
        rfl
      · simp only; rw [W_id (by omega) (by omega)]; omega
    · right
      rw [if_neg (by simpa using hk)]
      have : k = r := by omega
      subst this
      simp [rebuild_Parts_K1]

theorem refParts_len (m : Int) (hm : m ≤ 50000) : ((refParts m).length : Int) ≤ 9223372036854775807 := by
  have : ∀ i left, (refGo i left).length = i := by
    intro i
    induction i with
    | zero => intro left; rfl
    | succ i ih => intro left; simp [refGo, ih]
  unfold refParts
  rw [this]
  have : cdiv m 4096 ≤ 13 := by unfold cdiv; split <;> omega
  omega
theorem awake19 : jetsamlaw19_awake = some true := by kernel_rfl
/-- **Into which blocks samples are parted.** -/
theorem law_RebuildParts (m : Int) (h : V.wf (e_i64 m)) : jetsamlaw19_RebuildParts m = some true := by
  have h : -9223372036854775808 ≤ m ∧ m ≤ 9223372036854775807 := by rw [e_i64, V.wf, has_iff] at h; exact h
  unfold jetsamlaw19_RebuildParts
  by_cases hm : m > 50000
  · rw [if_pos (by simpa using hm), awake19]; rfl
  · rw [if_neg (by simpa using hm), parts_eq m (by omega) h.1, refParts_eq m (by omega) h.1]
    simp only [Option.bind_some]
    rw [ints_eq _ _ (refParts_len m (by omega))]
    simp [awake19]
end Go.Vg
