/- Plain laws: texts, pictures. -/
import Derived.Test.YtpdklmagncfhaaaDoorF1
import Derived.Test.YtpdklmagncfhaaaDoorA8
set_option maxRecDepth 4000
set_option linter.all false
set_option linter.unusedVariables false
set_option linter.unusedSimpArgs false
/- Numbers as bytes, low and high. -/
namespace Go.Vg

theorem u8w (x : Nat) : IntKind.u8.wrap (x : Int) = ((x % 256 : Nat) : Int) := by
  have : x % 256 < 256 := Nat.mod_lt _ (by decide)
  simp only [IntKind.wrap, IntKind.bits, IntKind.signed]
  simp
theorem i64_id {x : Int} (h1 : -9223372036854775808 ≤ x) (h2 : x ≤ 9223372036854775807) : IntKind.i64.wrap x = x := wrap_id (by rw [has_iff]; simp only [lo, hi]; omega)
theorem or_nat {x y : Nat} (hx : x < 9223372036854775808) (hy : y < 9223372036854775808) : arD .or .i64 (x : Int) (y : Int) = ((x ||| y : Nat) : Int) := by
  have h1 : (BitVec.ofInt IntKind.i64.bits (x : Int) ||| BitVec.ofInt IntKind.i64.bits (y : Int)).toNat = x ||| y := by
    rw [BitVec.ofInt_natCast, BitVec.ofInt_natCast, BitVec.toNat_or, BitVec.toNat_ofNat, BitVec.toNat_ofNat]
    simp only [IntKind.bits]
    rw [Nat.mod_eq_of_lt (by omega), Nat.mod_eq_of_lt (by omega)]
  simp only [arD, h1]
  have : x ||| y < 2 ^ 63 := Nat.or_lt_two_pow (by omega) (by omega)
  exact i64_id (by omega) (by omega)
theorem shl_nat {x s : Nat} (h : x * 2 ^ s < 9223372036854775808) (hs : s ≤ 64) : shD .shl .i64 (x : Int) (s : Int) = ((x * 2 ^ s : Nat) : Int) := by
  simp only [shD, IntKind.bits, Int.toNat_natCast]
  rw [Nat.min_eq_left hs]
  have : (x : Int) * 2 ^ s = ((x * 2 ^ s : Nat) : Int) := by push_cast; rfl
  rw [this]
  exact i64_id (by omega) (by omega)
theorem shr_nat {x s : Nat} (hs : s ≤ 64) : shD .shr .i64 (x : Int) (s : Int) = ((x / 2 ^ s : Nat) : Int) := by
  simp only [shD, IntKind.bits, Int.toNat_natCast]
  rw [Nat.min_eq_left hs]
  have : (2 : Int) ^ s = ((2 ^ s : Nat) : Int) := by push_cast; rfl
  rw [this, Int.fdiv_eq_ediv_of_nonneg _ (Int.natCast_nonneg _)]
  exact (Int.natCast_ediv _ _).symm
theorem or_low {x p i : Nat} (hx : x < 2 ^ i) : x ||| (p * 2 ^ i) = p * 2 ^ i + x := by
  rw [Nat.or_comm, ← Nat.shiftLeft_eq, ← Nat.shiftLeft_add_eq_or_of_lt hx]

/-- All are bytes. -/
def isB (l : List Int) : Prop := ∀ x, x ∈ l → 0 ≤ x ∧ x < 256
theorem isB_take {l : List Int} (h : isB l) (n : Nat) : isB (l.take n) := fun x hx => h x (List.mem_of_mem_take hx)
theorem isB_drop {l : List Int} (h : isB l) (n : Nat) : isB (l.drop n) := fun x hx => h x (List.mem_of_mem_drop hx)
theorem isB_bytesI (l : List UInt8) : isB (bytesI l) := fun x hx => by
  simp only [bytesI, List.mem_map] at hx
  obtain ⟨b, _, rfl⟩ := hx
  have := b.toNat_lt
  omega
theorem bytesI_len (l : List UInt8) : (bytesI l).length = l.length := by simp [bytesI]
theorem bstr_len (l : List Int) : (bstr l).length = l.length := by simp [bstr]
theorem bstr_bytesI (l : List UInt8) : bstr (bytesI l) = l := by
  simp only [bstr, bytesI, List.map_map]
  conv => rhs; rw [← List.map_id l]
  congr 1
  funext b
  simp
theorem bytesI_bstr {l : List Int} (h : isB l) : bytesI (bstr l) = l := by
  simp only [bstr, bytesI, List.map_map]
  conv => rhs; rw [← List.map_id l]
  apply List.map_congr_left
  intro x hx
  have := h x hx
  simp only [Function.comp, UInt8.toNat_ofNat', id]
  omega

/-- Four bytes of a number, the lowest one first. -/
def lowB (n : Nat) : List Int := [((n % 256 : Nat) : Int), ((n / 256 % 256 : Nat) : Int), ((n / 65536 % 256 : Nat) : Int), ((n / 16777216 % 256 : Nat) : Int)]
def lowN : List Int → Nat
  | [] => 0
  | a :: l => a.toNat + 256 * lowN l
theorem lowB_len (n : Nat) : (lowB n).length = 4 := rfl
theorem isB_lowB (n : Nat) : isB (lowB n) := fun x hx => by
  simp only [lowB, List.mem_cons, List.not_mem_nil, or_false] at hx
  rcases hx with rfl | rfl | rfl | rfl <;> omega
theorem lowN_lowB {n : Nat} (h : n < 4294967296) : lowN (lowB n) = n := by
  simp only [lowB, lowN, Int.toNat_natCast]
  omega
theorem lowN_lt : ∀ {l : List Int}, isB l → lowN l < 256 ^ l.length
  | [], _ => by simp [lowN]
  | a :: l, h => by
    have h1 := lowN_lt (l := l) fun x hx => h x (List.mem_cons_of_mem _ hx)
    have h2 := h a (List.mem_cons_self ..)
    rw [lowN, List.length_cons, Nat.pow_succ]
    omega
theorem lowB_lowN {l : List Int} (h : isB l) (hl : l.length = 4) : lowB (lowN l) = l := by
  match l, hl with
  | [a, b, c, d], _ =>
    have h1 := h a (by simp)
    have h2 := h b (by simp)
    have h3 := h c (by simp)
    have h4 := h d (by simp)
    simp only [lowB, lowN, List.cons.injEq, and_true]
    omega
theorem tags_low_eq {n : Nat} : tags_low (n : Int) = some (lowB n) := by
  unfold tags_low lowB
  rw [show (8 : Int) = ((8 : Nat) : Int) from rfl, show (16 : Int) = ((16 : Nat) : Int) from rfl, show (24 : Int) = ((24 : Nat) : Int) from rfl, shr_nat (by decide), shr_nat (by decide), shr_nat (by decide), u8w, u8w, u8w, u8w]

theorem take_ok {n : Nat} {r : tags_reader} (h : n ≤ r.m_b.length) : tags_reader_take (n : Int) r = some (r.m_b.take n, r.m_b.drop n, r.m_end) := by
  unfold tags_reader_take
  have e1 : decide ((n : Int) < 0) = false := by simp
  have e2 : decide ((n : Int) > (r.m_b.length : Int)) = false := by simp; omega
  rw [e1, e2]
  simp only [Bool.false_eq_true, if_false]
  rw [show (0 : Int) = ((0 : Nat) : Int) from rfl, sub_ok (Nat.zero_le _) h, sub_ok h (Nat.le_refl _)]
  have e3 : List.take (r.m_b.length - n) (List.drop n r.m_b) = List.drop n r.m_b := List.take_of_length_le (by simp)
  simp [e3]
theorem take_end {n : Nat} {r : tags_reader} (h : r.m_b.length < n) : tags_reader_take (n : Int) r = some ([], [], true) := by
  unfold tags_reader_take
  have e1 : decide ((n : Int) < 0) = false := by simp
  have e2 : decide ((n : Int) > (r.m_b.length : Int)) = true := by simp; omega
  rw [e1, e2]
  simp

end Go.Vg

/- Numbers, the highest byte first. -/
namespace Go.Vg

theorem snoc_ind {α : Type} {P : List α → Prop} (h0 : P []) (h1 : ∀ l x, P l → P (l ++ [x])) (l : List α) : P l := by
  have : ∀ m : List α, P m.reverse := fun m => by
    induction m with
    | nil => exact h0
    | cons x m ih => rw [List.reverse_cons]; exact h1 _ _ ih
  simpa using this l.reverse
/-- Bytes of a number, the highest one first. -/
def bigB : Nat → Nat → List Int
  | 0, _ => []
  | k + 1, n => bigB k (n / 256) ++ [((n % 256 : Nat) : Int)]
def bigN (l : List Int) : Nat := l.foldl (fun a b => 256 * a + b.toNat) 0
theorem bigB_len : ∀ (k n : Nat), (bigB k n).length = k
  | 0, _ => rfl
  | k + 1, n => by simp [bigB, bigB_len k]
theorem isB_bigB : ∀ (k n : Nat), isB (bigB k n)
  | 0, _ => fun x hx => by cases hx
  | k + 1, n => fun x hx => by
    simp only [bigB, List.mem_append, List.mem_singleton] at hx
    rcases hx with hx | rfl
    · exact isB_bigB k _ x hx
    · omega
theorem bigN_snoc (l : List Int) (x : Int) : bigN (l ++ [x]) = 256 * bigN l + x.toNat := by simp [bigN]
theorem bigN_lt {l : List Int} (h : isB l) : bigN l < 256 ^ l.length := by
  revert h
  refine snoc_ind (P := fun l => isB l → bigN l < 256 ^ l.length) (fun _ => by simp [bigN]) (fun l x ih h => ?_) l
  · rw [bigN_snoc, List.length_append, List.length_singleton, Nat.pow_succ]
    have h1 := ih fun y hy => h y (List.mem_append_left _ hy)
    have h2 := h x (by simp)
    omega
theorem bigB_bigN {l : List Int} (h : isB l) : bigB l.length (bigN l) = l := by
  revert h
  refine snoc_ind (P := fun l => isB l → bigB l.length (bigN l) = l) (fun _ => rfl) (fun l x ih h => ?_) l
  · have h2 := h x (by simp)
    rw [bigN_snoc, List.length_append, List.length_singleton, bigB, show (256 * bigN l + x.toNat) / 256 = bigN l by omega, ih fun y hy => h y (List.mem_append_left _ hy), show (256 * bigN l + x.toNat) % 256 = x.toNat by omega]
    congr 2
    omega
theorem bigN_bigB : ∀ {k n : Nat}, n < 256 ^ k → bigN (bigB k n) = n
  | 0, n, h => by
    simp only [Nat.pow_zero] at h
    have : n = 0 := by omega
    subst this
    rfl
  | k + 1, n, h => by
    rw [Nat.pow_succ] at h
    rw [bigB, bigN_snoc, bigN_bigB (by omega)]
    simp only [Int.toNat_natCast]
    omega

theorem high_step {l : List Int} {r : List Int × Bool} {i : Nat} (hl : l.length ≤ 7) (hb : isB l) (hi : i < l.length) :
    tags_reader_high_L1 (l, r) ((bigN (l.take i) : Int), (i : Int)) = some (.inl ((bigN (l.take (i + 1)) : Int), ((i + 1 : Nat) : Int))) := by
  have hg : l[i]? = some l[i] := List.getElem?_eq_getElem hi
  have hx := hb l[i] (List.getElem_mem hi)
  obtain ⟨p, hp⟩ := Int.eq_ofNat_of_zero_le hx.1
  have hpl : p < 256 := by omega
  unfold tags_reader_high_L1
  rw [if_pos (by simpa using hi), idx_ok hg]
  have e9 : W ((i : Int) + 1) = ((i + 1 : Nat) : Int) := by rw [W_id (by omega) (by omega)]; push_cast; rfl
  simp only [Option.bind_some]
  rw [e9, hp]
  have hlt := bigN_lt (isB_take hb i)
  rw [List.length_take, Nat.min_eq_left (by omega)] at hlt
  have h24 : 256 ^ i ≤ 256 ^ 6 := Nat.pow_le_pow_right (by decide) (by omega)
  have hlast : bigN (l.take (i + 1)) = bigN (l.take i) * 2 ^ 8 + p := by
    rw [List.take_add_one, hg, Option.toList_some, bigN_snoc, hp]
    simp only [Int.toNat_natCast]
    omega
  rw [show (8 : Int) = ((8 : Nat) : Int) from rfl, shl_nat (by omega) (by decide), or_nat (by omega) (by omega), Nat.or_comm, or_low (i := 8) (by omega), hlast]
theorem high_iter {l : List Int} {r : List Int × Bool} (hl : l.length ≤ 7) (hb : isB l) : iter (tags_reader_high_L1 (l, r)) (0, 0) = some ((bigN l : Int), r) := by
  refine iter_eq (fun a => ∃ i, i ≤ l.length ∧ a = ((bigN (l.take i) : Int), (i : Int))) (fun a => l.length - a.2.toNat) _ ?_ ⟨0, Nat.zero_le _, rfl⟩ (lt_ROUNDS (by simp only; omega))
  rintro a ⟨i, hi, rfl⟩
  by_cases h : i < l.length
  · refine .inl ⟨_, high_step hl hb h, ⟨i + 1, h, rfl⟩, ?_⟩
    simp only [Int.toNat_natCast]
    omega
  · refine .inr ?_
    have : i = l.length := by omega
    subst this
    unfold tags_reader_high_L1
    rw [if_neg (by simp)]
    simp [tags_reader_high_K1]
theorem high_ok {r : tags_reader} {k : Nat} (hk : k ≤ 7) (h : k ≤ r.m_b.length) (hb : isB r.m_b) : tags_reader_high (k : Int) r = some ((bigN (r.m_b.take k) : Int), r.m_b.drop k, r.m_end) := by
  unfold tags_reader_high
  rw [take_ok h]
  simp only [Option.bind_some]
  exact high_iter (by simp; omega) (isB_take hb k)
theorem high_end {r : tags_reader} {k : Nat} (h : r.m_b.length < k) : tags_reader_high (k : Int) r = some (0, [], true) := by
  unfold tags_reader_high
  rw [take_end h]
  simp only [Option.bind_some]
  exact high_iter (l := []) (by simp) (fun x hx => by cases hx)
theorem four_ok {r : tags_reader} (h : 4 ≤ r.m_b.length) (hb : isB r.m_b) : tags_reader_four r = some ((bigN (r.m_b.take 4) : Int), r.m_b.drop 4, r.m_end) := by
  unfold tags_reader_four
  rw [show (4 : Int) = ((4 : Nat) : Int) from rfl, high_ok (by decide) h hb]
  rfl
theorem four_end {r : tags_reader} (h : r.m_b.length < 4) : tags_reader_four r = some (0, [], true) := by
  unfold tags_reader_four
  rw [show (4 : Int) = ((4 : Nat) : Int) from rfl, high_end h]
  rfl
theorem text2_ok {r : tags_reader} {n : Nat} (h : 4 ≤ r.m_b.length) (hb : isB r.m_b) (hn : bigN (r.m_b.take 4) = n) (h2 : n + 4 ≤ r.m_b.length) (he : r.m_end = false) :
    tags_reader_text r = some (bstr ((r.m_b.drop 4).take n), r.m_b.drop (4 + n), false) := by
  unfold tags_reader_text
  rw [four_ok h hb]
  simp only [Option.bind_some, he, Bool.false_eq_true, if_false, hn]
  rw [take_ok (by simp only [List.length_drop]; omega)]
  simp [List.drop_drop]
theorem text2_end {r : tags_reader} (hb : isB r.m_b) (he : r.m_end = true → r.m_b = []) (h : r.m_b.length < 4 ∨ r.m_b.length < bigN (r.m_b.take 4) + 4) : tags_reader_text r = some ([], [], true) := by
  unfold tags_reader_text
  by_cases h4 : 4 ≤ r.m_b.length
  · rw [four_ok h4 hb]
    simp only [Option.bind_some]
    cases h5 : r.m_end with
    | true =>
      rw [he h5] at h4
      simp at h4
    | false =>
      simp only [Bool.false_eq_true, if_false]
      rw [take_end (by simp only [List.length_drop]; omega)]
      simp [bstr]
  · rw [four_end (by omega)]
    simp

/-- The bytes of a number, as they are written. -/
theorem bigB_cons : ∀ (k n : Nat), bigB (k + 1) n = ((n / 256 ^ k % 256 : Nat) : Int) :: bigB k n
  | 0, n => by simp [bigB]
  | k + 1, n => by
    rw [bigB, bigB_cons k, bigB, List.cons_append, Nat.div_div_eq_div_mul, Nat.pow_succ, Nat.mul_comm 256]
theorem tags_high_eq {n k : Nat} (hk : k ≤ 8) : tags_high (n : Int) (k : Int) = some (bigB k n) := by
  unfold tags_high
  rw [mks_ok (by omega) (Nat.le_trans hk (by decide))]
  simp only [Option.bind_some]
  refine iter_eq (fun a => ∃ i, i ≤ k ∧ a = ((i : Int), List.replicate (k - i) 0 ++ bigB i n)) (fun a => k - a.1.toNat) _ ?_ ⟨0, Nat.zero_le _, by simp [bigB]⟩ (lt_ROUNDS (by simp only; omega))
  rintro a ⟨i, hi, rfl⟩
  unfold tags_high_L1
  simp only [List.length_replicate, List.length_append, bigB_len]
  by_cases h : i < k
  · refine .inl ⟨_, ?_, ⟨i + 1, h, rfl⟩, ?_⟩
    · have e8 : W (8 * (i : Int)) = ((8 * i : Nat) : Int) := by rw [W_id (by omega) (by omega)]; push_cast; rfl
      have e9 : W ((i : Int) + 1) = ((i + 1 : Nat) : Int) := by rw [W_id (by omega) (by omega)]; push_cast; rfl
      have e7 : W (W ((k : Int) - 1) - (i : Int)) = ((k - 1 - i : Nat) : Int) := by rw [W_id (x := (k : Int) - 1) (by omega) (by omega), W_id (by omega) (by omega)]; omega
      rw [if_pos (by simpa using h), e7, e8, e9, need_ok (by simp only [decide_eq_true_eq]; omega), need_ok (by simp only [decide_eq_true_eq]; omega), need_ok (by simp only [decide_eq_true_eq]; omega), shr_nat (by omega), u8w]
      unfold upd
      simp only [Option.bind_some, Int.toNat_natCast, Option.some.injEq, Sum.inl.injEq, Prod.mk.injEq, true_and]
      rw [List.set_append_left _ _ (by simp only [List.length_replicate]; omega), show k - i = (k - 1 - i) + 1 by omega, List.replicate_succ', List.set_append_right _ _ (by simp)]
      simp only [List.length_replicate, Nat.sub_self, List.set_cons_zero, List.append_assoc, List.singleton_append]
      rw [bigB_cons, show k - (i + 1) = k - 1 - i by omega, show (256 : Nat) ^ i = 2 ^ (8 * i) by rw [Nat.pow_mul]]
    · simp only [Int.toNat_natCast]
      omega
  · refine .inr ?_
    have : i = k := by omega
    subst this
    rw [if_neg (by simp)]
    simp [tags_high_K1]
end Go.Vg

/- Lists: joined, searched, compared. -/
namespace Go.Vg

theorem W_nat {n : Nat} (h : n ≤ 9223372036854775807) : W (n : Int) = n := W_id (by omega) (by omega)
theorem W_succ {n : Nat} (h : n < 9223372036854775807) : W ((n : Int) + 1) = ((n + 1 : Nat) : Int) := by rw [W_id (by omega) (by omega)]; push_cast; rfl
theorem W_add {n m : Nat} (h : n + m ≤ 9223372036854775807) : W ((n : Int) + (m : Int)) = ((n + m : Nat) : Int) := by rw [W_id (by omega) (by omega)]; push_cast; rfl

theorem flat_take_le {ls : List (List Int)} (i : Nat) : (ls.take i).flatten.length ≤ ls.flatten.length := by
  rw [show ls.flatten = (ls.take i).flatten ++ (ls.drop i).flatten by rw [← List.flatten_append, List.take_append_drop], List.length_append]
  omega
theorem take_succ_get {α : Type} {l : List α} {i : Nat} (h : i < l.length) : l.take (i + 1) = l.take i ++ [l[i]] := by
  rw [List.take_add_one, List.getElem?_eq_getElem h, Option.toList_some]
theorem concat_eq {ls : List (List Int)} (hn : ls.length < 1000000000000) (h : ls.flatten.length ≤ 140737488355328) : slices_Concat_sbyte_byte ls = some ls.flatten := by
  unfold slices_Concat_sbyte_byte
  refine iter_eq (fun a => ∃ i, i ≤ ls.length ∧ a = (((ls.take i).flatten.length : Int), (i : Int))) (fun a => ls.length - a.2.toNat) _ ?_ ⟨0, Nat.zero_le _, rfl⟩ (lt_ROUNDS (by simp only; omega))
  rintro a ⟨i, hi, rfl⟩
  have hfl := flat_take_le (ls := ls) i
  unfold slices_Concat_sbyte_byte_L2
  by_cases h1 : i < ls.length
  · refine .inl ⟨_, ?_, ⟨i + 1, h1, rfl⟩, ?_⟩
    · have hfl2 := flat_take_le (ls := ls) (i + 1)
      have e : (ls.take (i + 1)).flatten.length = (ls.take i).flatten.length + ls[i].length := by
        rw [take_succ_get h1, List.flatten_append, List.length_append]
        simp
      rw [if_pos (by simpa using h1), idx_ok (List.getElem?_eq_getElem h1)]
      simp only [Option.bind_some]
      rw [W_add (by omega), W_succ (by omega), if_neg (by simp only [decide_eq_true_eq]; omega), e]
    · simp only [Int.toNat_natCast]
      omega
  · refine .inr ?_
    have hi2 : i = ls.length := by omega
    subst hi2
    rw [if_neg (by simp), List.take_length]
    unfold slices_Concat_sbyte_byte_K1 growF
    rw [if_pos (by omega)]
    simp only [Option.bind_some]
    rw [iter_eq (a0 := ((0 : Int), ([] : List Int))) (fun a => ∃ i : Nat, i ≤ ls.length ∧ a = ((i : Int), (ls.take i).flatten)) (fun a => ls.length - a.1.toNat) ls.flatten ?_ ⟨0, Nat.zero_le _, rfl⟩ (lt_ROUNDS (by simp only; omega))]
    · rfl
    rintro a ⟨i, hi, rfl⟩
    unfold slices_Concat_sbyte_byte_L1
    by_cases h1 : i < ls.length
    · refine .inl ⟨_, ?_, ⟨i + 1, h1, rfl⟩, ?_⟩
      · have hfl2 := flat_take_le (ls := ls) (i + 1)
        have e : (ls.take (i + 1)).flatten = (ls.take i).flatten ++ ls[i] := by
          rw [take_succ_get h1, List.flatten_append]
          simp
        rw [e, List.length_append] at hfl2
        rw [if_pos (by simpa using h1), idx_ok (List.getElem?_eq_getElem h1)]
        simp only [Option.bind_some]
        rw [app_ok (by omega), W_succ (by omega), e]
        rfl
      · simp only [Int.toNat_natCast]
        omega
    · refine .inr ?_
      have : i = ls.length := by omega
      subst this
      rw [if_neg (by simp), List.take_length]
      rfl

theorem all_take_snoc {α : Type} {l : List α} {p : α → Bool} {i : Nat} (h : i < l.length) : (l.take (i + 1)).all p = ((l.take i).all p && p l[i]) := by
  rw [take_succ_get h, List.all_append, List.all_cons, List.all_nil, Bool.and_true]
/-- A search: the loop that all of them are. -/
theorem find_iter {α A : Type} {l : List α} (p : α → Bool) (yes : Int → A) (no : A) (step : Int → Option (Int ⊕ A)) (hn : l.length ≤ 9223372036854775807)
    (h1 : ∀ (i : Nat) (hi : i < l.length), step (i : Int) = if p l[i] = true then some (.inr (yes i)) else some (.inl (W ((i : Int) + 1)))) (h2 : step (l.length : Int) = some (.inr no)) :
    ∃ r, iter step 0 = some r ∧ ((l.all (fun x => !p x) = true ∧ r = no) ∨ (l.all (fun x => !p x) = false ∧ ∃ i : Nat, i < l.length ∧ r = yes i)) := by
  refine iter_of (fun a => ∃ i : Nat, i ≤ l.length ∧ a = (i : Int) ∧ (l.take i).all (fun x => !p x) = true) (fun a => l.length - a.toNat) _ ?_ ⟨0, Nat.zero_le _, rfl, rfl⟩ (lt_ROUNDS (by omega))
  rintro a ⟨i, hi, rfl, ha⟩
  by_cases h : i < l.length
  · cases hp : p l[i] with
    | true =>
      refine .inr ⟨yes i, by rw [h1 i h, if_pos hp], .inr ⟨?_, i, h, rfl⟩⟩
      rw [← Bool.not_eq_true, List.all_eq_true]
      intro hall
      have := hall l[i] (List.getElem_mem h)
      simp [hp] at this
    | false =>
      refine .inl ⟨((i + 1 : Nat) : Int), by rw [h1 i h, if_neg (by simp [hp]), W_succ (by omega)], ⟨i + 1, h, rfl, ?_⟩, ?_⟩
      · rw [all_take_snoc h, ha, hp]
        rfl
      · simp only [Int.toNat_natCast]
        omega
  · refine .inr ⟨no, ?_, .inl ⟨?_, rfl⟩⟩
    · have : i = l.length := by omega
      rw [this, h2]
    · rwa [List.take_of_length_le (by omega)] at ha

theorem contains_byte {l : List Int} {a b : Int} (hn : l.length < 1000000000000000) : slices_ContainsFunc_sbyte_byte l a b = some (!(l.all fun x => decide (a ≤ x) && decide (x ≤ b))) := by
  unfold slices_ContainsFunc_sbyte_byte slices_IndexFunc_sbyte_byte
  obtain ⟨r, h1, h2⟩ := find_iter (l := l) (fun x => !(decide (a ≤ x) && decide (x ≤ b))) id (-1) (slices_IndexFunc_sbyte_byte_L1 l a b) (by omega) (fun i hi => by
    unfold slices_IndexFunc_sbyte_byte_L1 tags_letters_c1
    rw [if_pos (by simpa using hi), idx_ok (List.getElem?_eq_getElem hi)]
    simp only [Option.bind_some]
    by_cases h1 : a ≤ l[i] <;> by_cases h2 : l[i] ≤ b
    all_goals (simp only [h1, h2, decide_true, decide_false, Bool.and_true, Bool.and_false, Bool.not_true, Bool.not_false, Bool.false_and]; first | (rw [if_neg (by simp; omega)]; rfl) | (rw [if_pos (by simp; omega)]; rfl))) (by
    unfold slices_IndexFunc_sbyte_byte_L1
    rw [if_neg (by simp)]
    rfl)
  rw [h1]
  simp only [Bool.not_not] at h2
  rcases h2 with ⟨e, rfl⟩ | ⟨e, i, hi, rfl⟩
  · rw [e]; rfl
  · rw [e]
    simp
theorem contains_int {l : List Int} {a b : Int} (hn : l.length < 1000000000000000) : slices_ContainsFunc_sint_int l a b = some (!(l.all fun x => decide (a ≤ x) && decide (x ≤ b))) := by
  unfold slices_ContainsFunc_sint_int slices_IndexFunc_sint_int
  obtain ⟨r, h1, h2⟩ := find_iter (l := l) (fun x => !(decide (a ≤ x) && decide (x ≤ b))) id (-1) (slices_IndexFunc_sint_int_L1 l a b) (by omega) (fun i hi => by
    unfold slices_IndexFunc_sint_int_L1 tags_within_c1
    rw [if_pos (by simpa using hi), idx_ok (List.getElem?_eq_getElem hi)]
    simp only [Option.bind_some]
    by_cases h1 : a ≤ l[i] <;> by_cases h2 : l[i] ≤ b
    all_goals (simp only [h1, h2, decide_true, decide_false, Bool.and_true, Bool.and_false, Bool.not_true, Bool.not_false, Bool.false_and]; first | (rw [if_neg (by simp; omega)]; rfl) | (rw [if_pos (by simp; omega)]; rfl))) (by
    unfold slices_IndexFunc_sint_int_L1
    rw [if_neg (by simp)]
    rfl)
  rw [h1]
  simp only [Bool.not_not] at h2
  rcases h2 with ⟨e, rfl⟩ | ⟨e, i, hi, rfl⟩
  · rw [e]; rfl
  · rw [e]
    simp
theorem contains_str {l : List (List UInt8)} {g : List UInt8 → Option Bool} {p : List UInt8 → Bool} (hn : l.length < 1000000000000000) (hg : ∀ s, s ∈ l → g s = some (!p s)) : slices_ContainsFunc_sstring_string l g = some (!(l.all p)) := by
  unfold slices_ContainsFunc_sstring_string slices_IndexFunc_sstring_string
  obtain ⟨r, h1, h2⟩ := find_iter (l := l) (fun x => !p x) id (-1) (slices_IndexFunc_sstring_string_L1 l g) (by omega) (fun i hi => by
    unfold slices_IndexFunc_sstring_string_L1
    rw [if_pos (by simpa using hi), idx_ok (List.getElem?_eq_getElem hi)]
    simp only [Option.bind_some]
    rw [hg _ (List.getElem_mem hi)]
    simp only [Option.bind_some]
    split <;> rfl) (by
    unfold slices_IndexFunc_sstring_string_L1
    rw [if_neg (by simp)]
    rfl)
  rw [h1]
  simp only [Bool.not_not] at h2
  rcases h2 with ⟨e, rfl⟩ | ⟨e, i, hi, rfl⟩
  · rw [show (fun x => p x) = p from rfl] at e; rw [e]; rfl
  · rw [show (fun x => p x) = p from rfl] at e
    rw [e]
    simp
def letterB (a b : Int) (s : List UInt8) : Bool := (bytesI s).all fun x => decide (a ≤ x) && decide (x ≤ b)
theorem letters_eq {s : List UInt8} {a b : Int} (hn : s.length < 1000000000000000) : tags_letters s a b = some (letterB a b s) := by
  unfold tags_letters letterB
  rw [contains_byte (by rwa [bytesI_len])]
  simp
theorem within_eq {l : List Int} {a b : Int} (hn : l.length < 1000000000000000) : tags_within a b l = some (l.all fun x => decide (a ≤ x) && decide (x ≤ b)) := by
  unfold tags_within
  rw [contains_int hn]
  simp

theorem bytes_eq {a b : List Int} (hn : a.length < 1000000000000000) : jetsamlaw11_Bytes a b = some (decide (a = b)) := by
  unfold jetsamlaw11_Bytes
  by_cases hl : a.length = b.length
  · rw [if_neg (by simp [hl])]
    obtain ⟨r, h1, h2⟩ := find_iter (l := a.zip b) (fun x => decide (x.1 ≠ x.2)) (fun _ => false) true (jetsamlaw11_Bytes_L1 a b) (by simp; omega) (fun i hi => by
      simp only [List.length_zip] at hi
      unfold jetsamlaw11_Bytes_L1
      rw [if_pos (by simp; omega), idx_ok (List.getElem?_eq_getElem (show i < a.length by omega)), idx_ok (List.getElem?_eq_getElem (show i < b.length by omega))]
      simp only [Option.bind_some, List.getElem_zip, bne_iff_ne, decide_eq_true_eq]
      split <;> rfl) (by
      unfold jetsamlaw11_Bytes_L1
      rw [if_neg (by simp [hl])]
      rfl)
    rw [h1]
    congr 1
    rcases h2 with ⟨e, rfl⟩ | ⟨e, i, hi, rfl⟩
    · symm
      rw [decide_eq_true_eq]
      apply List.ext_getElem hl
      intro i h3 h4
      have := List.all_eq_true.1 e (a[i], b[i]) (by rw [List.mem_iff_getElem]; exact ⟨i, by simp; omega, by simp⟩)
      simpa using this
    · symm
      rw [decide_eq_false_iff_not]
      rintro rfl
      rw [← Bool.not_eq_true, List.all_eq_true] at e
      refine e fun x hx => ?_
      obtain ⟨j, hj, rfl⟩ := List.mem_iff_getElem.1 hx
      simp
  · rw [if_pos (by simp; omega)]
    congr 1
    symm
    rw [decide_eq_false_iff_not]
    rintro rfl
    exact hl rfl
theorem texts_eq {a b : List (List UInt8)} (hn : a.length < 1000000000000000) : jetsamlaw13_texts a b = some (decide (a = b)) := by
  unfold jetsamlaw13_texts
  by_cases hl : a.length = b.length
  · rw [if_neg (by simp [hl])]
    obtain ⟨r, h1, h2⟩ := find_iter (l := a.zip b) (fun x => decide (x.1 ≠ x.2)) (fun _ => false) true (jetsamlaw13_texts_L1 a b) (by simp; omega) (fun i hi => by
      simp only [List.length_zip] at hi
      unfold jetsamlaw13_texts_L1
      rw [if_pos (by simp; omega), idx_ok (List.getElem?_eq_getElem (show i < a.length by omega)), idx_ok (List.getElem?_eq_getElem (show i < b.length by omega))]
      simp only [Option.bind_some, List.getElem_zip, Bool.not_eq_true', beq_eq_false_iff_ne, decide_eq_true_eq]
      split <;> rfl) (by
      unfold jetsamlaw13_texts_L1
      rw [if_neg (by simp [hl])]
      rfl)
    rw [h1]
    congr 1
    rcases h2 with ⟨e, rfl⟩ | ⟨e, i, hi, rfl⟩
    · symm
      rw [decide_eq_true_eq]
      apply List.ext_getElem hl
      intro i h3 h4
      have := List.all_eq_true.1 e (a[i], b[i]) (by rw [List.mem_iff_getElem]; exact ⟨i, by simp; omega, by simp⟩)
      simpa using this
    · symm
      rw [decide_eq_false_iff_not]
      rintro rfl
      rw [← Bool.not_eq_true, List.all_eq_true] at e
      refine e fun x hx => ?_
      obtain ⟨j, hj, rfl⟩ := List.mem_iff_getElem.1 hx
      simp
  · rw [if_pos (by simp; omega)]
    congr 1
    symm
    rw [decide_eq_false_iff_not]
    rintro rfl
    exact hl rfl
theorem full_eq (b : List Int) : tags_full b = some (if b.length > 16777215 then ([], 21) else (b, 0)) := by
  unfold tags_full
  by_cases h : b.length > 16777215
  · rw [if_pos (by simp; omega), if_pos h]
  · rw [if_neg (by simp; omega), if_neg h]
end Go.Vg

/- Which texts are UTF-8. -/
namespace Go.Vg

def uCls (c : Nat) : Nat × Nat × Nat :=
  if c < 194 then (0, 0, 0) else if c < 224 then (2, 128, 191) else if c = 224 then (3, 160, 191) else if c < 237 then (3, 128, 191) else if c = 237 then (3, 128, 159) else if c < 240 then (3, 128, 191)
  else if c = 240 then (4, 144, 191) else if c < 244 then (4, 128, 191) else if c = 244 then (4, 128, 143) else (0, 0, 0)
def contB (l : List UInt8) (i lo hi : Nat) : Bool := match l[i]? with
  | some b => decide (lo ≤ b.toNat) && decide (b.toNat ≤ hi)
  | none => false
/-- How many bytes the first sign has; 0: none is there. -/
def uLen (l : List UInt8) : Nat := match l with
  | [] => 0
  | c :: _ => if c.toNat < 128 then 1 else
    if (uCls c.toNat).1 = 2 then (if contB l 1 (uCls c.toNat).2.1 (uCls c.toNat).2.2 = true then 2 else 0)
    else if (uCls c.toNat).1 = 3 then (if contB l 1 (uCls c.toNat).2.1 (uCls c.toNat).2.2 = true ∧ contB l 2 128 191 = true then 3 else 0)
    else if (uCls c.toNat).1 = 4 then (if contB l 1 (uCls c.toNat).2.1 (uCls c.toNat).2.2 = true ∧ contB l 2 128 191 = true ∧ contB l 3 128 191 = true then 4 else 0)
    else 0
def utfGo : Nat → List UInt8 → Bool
  | 0, l => l.isEmpty
  | f + 1, l => l.isEmpty || (uLen l != 0 && utfGo f (l.drop (uLen l)))
theorem utfGo_more : ∀ (f g : Nat) (l : List UInt8), l.length ≤ f → l.length ≤ g → utfGo f l = utfGo g l
  | 0, g, l, h, _ => by
    have : l = [] := List.eq_nil_of_length_eq_zero (by omega)
    subst this
    cases g <;> rfl
  | f + 1, 0, l, _, h => by
    have : l = [] := List.eq_nil_of_length_eq_zero (by omega)
    subst this
    rfl
  | f + 1, g + 1, l, h1, h2 => by
    unfold utfGo
    by_cases h : uLen l = 0
    · simp [h]
    · rw [utfGo_more f g (l.drop (uLen l)) (by simp; omega) (by simp; omega)]
def utfOk (l : List UInt8) : Bool := utfGo l.length l
theorem utfOk_nil : utfOk [] = true := rfl
theorem utfOk_step {l : List UInt8} (h : l ≠ []) : utfOk l = (uLen l != 0 && utfOk (l.drop (uLen l))) := by
  unfold utfOk
  cases hl : l.length with
  | zero => exact absurd (List.eq_nil_of_length_eq_zero hl) h
  | succ n =>
    rw [utfGo]
    have : l.isEmpty = false := by cases l <;> simp_all
    rw [this, Bool.false_or]
    by_cases h0 : uLen l = 0
    · simp [h0]
    · rw [utfGo_more n (l.drop (uLen l)).length _ (by simp; omega) (Nat.le_refl _)]
theorem utfOk_one {c : UInt8} {t : List UInt8} (h : c.toNat < 128) : utfOk (c :: t) = utfOk t := by
  rw [utfOk_step (by simp)]
  have : uLen (c :: t) = 1 := by simp [uLen, h]
  rw [this]
  rfl
theorem utfOk_skip : ∀ (k : Nat) (l : List UInt8), (∀ b, b ∈ l.take k → b.toNat < 128) → utfOk (l.drop k) = utfOk l
  | 0, _, _ => rfl
  | k + 1, [], _ => rfl
  | k + 1, c :: t, h => by
    rw [List.drop_succ_cons, utfOk_one (h c (by simp)), utfOk_skip k t fun b hb => h b (by simp [hb])]

theorem u64_id {x : Nat} (h : x < 18446744073709551616) : IntKind.u64.wrap (x : Int) = x := wrap_id (by rw [has_iff]; simp only [lo, hi]; omega)
theorem or_u64 {x y : Nat} (hx : x < 18446744073709551616) (hy : y < 18446744073709551616) : arD .or .u64 (x : Int) (y : Int) = ((x ||| y : Nat) : Int) := by
  have h1 : (BitVec.ofInt IntKind.u64.bits (x : Int) ||| BitVec.ofInt IntKind.u64.bits (y : Int)).toNat = x ||| y := by
    rw [BitVec.ofInt_natCast, BitVec.ofInt_natCast, BitVec.toNat_or, BitVec.toNat_ofNat, BitVec.toNat_ofNat]
    simp only [IntKind.bits]
    rw [Nat.mod_eq_of_lt (by omega), Nat.mod_eq_of_lt (by omega)]
  simp only [arD, h1]
  have : x ||| y < 2 ^ 64 := Nat.or_lt_two_pow (by omega) (by omega)
  exact u64_id (by omega)
theorem or_lt {x y : Nat} (hx : x < 18446744073709551616) (hy : y < 18446744073709551616) : x ||| y < 18446744073709551616 := by
  have : x ||| y < 2 ^ 64 := Nat.or_lt_two_pow (by omega) (by omega)
  omega
theorem and_u64 {x y : Nat} (hx : x < 18446744073709551616) (hy : y < 18446744073709551616) : arD .and .u64 (x : Int) (y : Int) = ((x &&& y : Nat) : Int) := by
  have h1 : (BitVec.ofInt IntKind.u64.bits (x : Int) &&& BitVec.ofInt IntKind.u64.bits (y : Int)).toNat = x &&& y := by
    rw [BitVec.ofInt_natCast, BitVec.ofInt_natCast, BitVec.toNat_and, BitVec.toNat_ofNat, BitVec.toNat_ofNat]
    simp only [IntKind.bits]
    rw [Nat.mod_eq_of_lt (by omega), Nat.mod_eq_of_lt (by omega)]
  simp only [arD, h1]
  have : x &&& y ≤ x := Nat.and_le_left
  exact u64_id (by omega)
theorem shl_u64 {x s : Nat} (h : x * 2 ^ s < 18446744073709551616) (hs : s ≤ 64) : shD .shl .u64 (x : Int) (s : Int) = ((x * 2 ^ s : Nat) : Int) := by
  simp only [shD, IntKind.bits, Int.toNat_natCast]
  rw [Nat.min_eq_left hs]
  have : (x : Int) * 2 ^ s = ((x * 2 ^ s : Nat) : Int) := by push_cast; rfl
  rw [this]
  exact u64_id (by omega)

/-- No byte of a word has its highest bit. -/
def lowW (w : Nat) : Prop := ∀ i, i < 8 → w.testBit (8 * i + 7) = false
theorem lowW_or {x y : Nat} (h : lowW (x ||| y)) : lowW x ∧ lowW y :=
  ⟨fun i hi => by have := h i hi; rw [Nat.testBit_or, Bool.or_eq_false_iff] at this; exact this.1, fun i hi => by have := h i hi; rw [Nat.testBit_or, Bool.or_eq_false_iff] at this; exact this.2⟩
theorem lowW_of {x : Nat} (hx : x < 18446744073709551616) (h : (arD .and .u64 (x : Int) 9259542123273814144 == 0) = true) : lowW x := by
  rw [show (9259542123273814144 : Int) = ((9259542123273814144 : Nat) : Int) from rfl, and_u64 hx (by decide)] at h
  have h0 : x &&& 9259542123273814144 = 0 := by simpa using h
  intro i hi
  have : (x &&& 9259542123273814144).testBit (8 * i + 7) = false := by rw [h0]; simp
  rw [Nat.testBit_and, Bool.and_eq_false_iff] at this
  rcases this with h | h
  · exact h
  · exfalso
    revert h
    match i, hi with
    | 0, _ => decide
    | 1, _ => decide
    | 2, _ => decide
    | 3, _ => decide
    | 4, _ => decide
    | 5, _ => decide
    | 6, _ => decide
    | 7, _ => decide
theorem bit7 {b i : Nat} (hb : b < 256) (h : (b * 2 ^ (8 * i)).testBit (8 * i + 7) = false) : b < 128 := by
  rw [← Nat.shiftLeft_eq, Nat.testBit_shiftLeft] at h
  simp only [ge_iff_le, Nat.le_add_right, decide_true, Bool.true_and, Nat.add_sub_cancel_left] at h
  rw [Nat.testBit_eq_decide_div_mod_eq, decide_eq_false_iff_not] at h
  omega
theorem word_ok {t : List UInt8} (h : 8 ≤ t.length) : ∃ w : Nat, w < 18446744073709551616 ∧ unicode_utf8_word_string t = some (w : Int) ∧ (lowW w → ∀ b, b ∈ t.take 8 → b.toNat < 128) := by
  match t, h with
  | b0 :: b1 :: b2 :: b3 :: b4 :: b5 :: b6 :: b7 :: r, _ =>
    have h0 := b0.toNat_lt
    have h1 := b1.toNat_lt
    have h2 := b2.toNat_lt
    have h3 := b3.toNat_lt
    have h4 := b4.toNat_lt
    have h5 := b5.toNat_lt
    have h6 := b6.toNat_lt
    have h7 := b7.toNat_lt
    refine ⟨b0.toNat ||| b1.toNat * 2 ^ (8 * 1) ||| b2.toNat * 2 ^ (8 * 2) ||| b3.toNat * 2 ^ (8 * 3) ||| b4.toNat * 2 ^ (8 * 4) ||| b5.toNat * 2 ^ (8 * 5) ||| b6.toNat * 2 ^ (8 * 6) ||| b7.toNat * 2 ^ (8 * 7), ?_, ?_, fun hl b hb => ?_⟩
    · exact or_lt (or_lt (or_lt (or_lt (or_lt (or_lt (or_lt (by omega) (by omega)) (by omega)) (by omega)) (by omega)) (by omega)) (by omega)) (by omega)
    · unfold unicode_utf8_word_string
      simp only [idx, List.getElem?_cons_zero, List.getElem?_cons_succ, Int.toNat_zero, show (1 : Int).toNat = 1 from rfl, show (2 : Int).toNat = 2 from rfl, show (3 : Int).toNat = 3 from rfl, show (4 : Int).toNat = 4 from rfl, show (5 : Int).toNat = 5 from rfl, show (6 : Int).toNat = 6 from rfl, show (7 : Int).toNat = 7 from rfl, show (0 : Int) ≤ 0 by decide, show (0 : Int) ≤ 1 by decide, show (0 : Int) ≤ 2 by decide, show (0 : Int) ≤ 3 by decide, show (0 : Int) ≤ 4 by decide, show (0 : Int) ≤ 5 by decide, show (0 : Int) ≤ 6 by decide, show (0 : Int) ≤ 7 by decide, if_true, Option.bind_some]
      rw [show (8 : Int) = ((8 : Nat) : Int) from rfl, show (16 : Int) = ((16 : Nat) : Int) from rfl, show (24 : Int) = ((24 : Nat) : Int) from rfl, show (32 : Int) = ((32 : Nat) : Int) from rfl, show (40 : Int) = ((40 : Nat) : Int) from rfl, show (48 : Int) = ((48 : Nat) : Int) from rfl, show (56 : Int) = ((56 : Nat) : Int) from rfl]
      rw [shl_u64 (by omega) (by decide), shl_u64 (by omega) (by decide), shl_u64 (by omega) (by decide), shl_u64 (by omega) (by decide), shl_u64 (by omega) (by decide), shl_u64 (by omega) (by decide), shl_u64 (by omega) (by decide)]
      rw [or_u64 (by omega) (by omega)]
      rw [or_u64 (or_lt (by omega) (by omega)) (by omega)]
      rw [or_u64 (or_lt (or_lt (by omega) (by omega)) (by omega)) (by omega)]
      rw [or_u64 (or_lt (or_lt (or_lt (by omega) (by omega)) (by omega)) (by omega)) (by omega)]
      rw [or_u64 (or_lt (or_lt (or_lt (or_lt (by omega) (by omega)) (by omega)) (by omega)) (by omega)) (by omega)]
      rw [or_u64 (or_lt (or_lt (or_lt (or_lt (or_lt (by omega) (by omega)) (by omega)) (by omega)) (by omega)) (by omega)) (by omega)]
      rw [or_u64 (or_lt (or_lt (or_lt (or_lt (or_lt (or_lt (by omega) (by omega)) (by omega)) (by omega)) (by omega)) (by omega)) (by omega)) (by omega)]
    · obtain ⟨hl, g7⟩ := lowW_or hl
      obtain ⟨hl, g6⟩ := lowW_or hl
      obtain ⟨hl, g5⟩ := lowW_or hl
      obtain ⟨hl, g4⟩ := lowW_or hl
      obtain ⟨hl, g3⟩ := lowW_or hl
      obtain ⟨hl, g2⟩ := lowW_or hl
      obtain ⟨g0, g1⟩ := lowW_or hl
      simp only [List.take_succ_cons, List.take_zero, List.mem_cons, List.not_mem_nil, or_false] at hb
      rcases hb with rfl | rfl | rfl | rfl | rfl | rfl | rfl | rfl
      · exact bit7 (i := 0) h0 (by simpa using g0 0 (by decide))
      · exact bit7 h1 (g1 1 (by decide))
      · exact bit7 h2 (g2 2 (by decide))
      · exact bit7 h3 (g3 3 (by decide))
      · exact bit7 h4 (g4 4 (by decide))
      · exact bit7 h5 (g5 5 (by decide))
      · exact bit7 h6 (g6 6 (by decide))
      · exact bit7 h7 (g7 7 (by decide))
end Go.Vg

/- utf8.ValidString answers utfOk. -/
namespace Go.Vg

def tabChk (c : Nat) : Bool := match idx tab0 (c : Int) with
  | some p => match idx tab1 (shD .shr .u8 p 4) with
    | some q => if (uCls c).1 = 2 ∨ (uCls c).1 = 3 ∨ (uCls c).1 = 4 then decide (arD .and .u8 p 7 = ((uCls c).1 : Int)) && decide (q.m_lo = ((uCls c).2.1 : Int)) && decide (q.m_hi = ((uCls c).2.2 : Int))
      else !(arD .and .u8 p 7 == 2) && !(arD .and .u8 p 7 == 3) && !(arD .and .u8 p 7 == 4)
    | none => false
  | none => false
theorem tab_all : (List.range 256).all (fun c => decide (c < 128) || tabChk c) = true := by kernel_rfl
theorem tab_ok' {c : Nat} (h1 : 128 ≤ c) (h2 : c < 256) : ∃ p q, idx tab0 (c : Int) = some p ∧ idx tab1 (shD .shr .u8 p 4) = some q ∧
    (((uCls c).1 = 2 ∨ (uCls c).1 = 3 ∨ (uCls c).1 = 4) ∧ arD .and .u8 p 7 = ((uCls c).1 : Int) ∧ q.m_lo = ((uCls c).2.1 : Int) ∧ q.m_hi = ((uCls c).2.2 : Int) ∨
     ¬ ((uCls c).1 = 2 ∨ (uCls c).1 = 3 ∨ (uCls c).1 = 4) ∧ (arD .and .u8 p 7 == 2) = false ∧ (arD .and .u8 p 7 == 3) = false ∧ (arD .and .u8 p 7 == 4) = false) := by
  have h := List.all_eq_true.1 tab_all c (List.mem_range.2 h2)
  rw [decide_eq_false (by omega), Bool.false_or] at h
  unfold tabChk at h
  split at h
  · rename_i p hp
    split at h
    · rename_i q hq
      refine ⟨p, q, hp, hq, ?_⟩
      split at h
      · rename_i hc
        simp only [Bool.and_eq_true, decide_eq_true_eq] at h
        exact .inl ⟨hc, h.1.1, h.1.2, h.2⟩
      · rename_i hc
        simp only [Bool.and_eq_true, Bool.not_eq_true'] at h
        exact .inr ⟨hc, h.1.1, h.1.2, h.2⟩
    · cases h
  · cases h

/-- Of a text the rest, behind some small bytes. -/
def Rest (l t : List UInt8) : Prop := utfOk t = utfOk l ∧ t.length ≤ l.length
theorem rest_drop {l : List UInt8} {k : Nat} (h : ∀ b, b ∈ l.take k → b.toNat < 128) : Rest l (l.drop k) := ⟨utfOk_skip k l h, by simp⟩
theorem Rest.trans {a b c : List UInt8} (h : Rest a b) (k : Rest b c) : Rest a c := ⟨k.1.trans h.1, Nat.le_trans k.2 h.2⟩
theorem Rest.refl (a : List UInt8) : Rest a a := ⟨rfl, Nat.le_refl _⟩
theorem sub_tail {l : List UInt8} {k : Nat} (h : k ≤ l.length) : sub l (k : Int) (l.length : Int) = some (l.drop k) := by
  rw [sub_ok h (Nat.le_refl _), List.take_of_length_le (by simp)]
theorem mem_take_add {l : List UInt8} {j k : Nat} {P : UInt8 → Prop} (h1 : ∀ b, b ∈ l.take j → P b) (h2 : ∀ b, b ∈ (l.drop j).take k → P b) : ∀ b, b ∈ l.take (j + k) → P b := fun b hb => by
  rw [List.take_add, List.mem_append] at hb
  exact hb.elim (h1 b) (h2 b)

theorem L2_ok {t : List UInt8} (hbig : t.length < 1000000000000) : ∃ r, iter unicode_utf8_ValidString_L2 t = some r ∧ ∃ t', Rest t t' ∧ r = .inl t' := by
  refine iter_of (fun a => Rest t a) (fun a => a.length) _ ?_ (Rest.refl t) (lt_ROUNDS (by omega))
  intro a ha
  unfold unicode_utf8_ValidString_L2
  by_cases h : a.length > 32
  · rw [if_pos (by simp only [decide_eq_true_eq]; omega)]
    rw [show (8 : Int) = ((8 : Nat) : Int) from rfl, show (16 : Int) = ((16 : Nat) : Int) from rfl, show (24 : Int) = ((24 : Nat) : Int) from rfl, sub_tail (by omega), sub_tail (by omega), sub_tail (by omega)]
    obtain ⟨w1, l1, e1, k1⟩ := word_ok (t := a) (by omega)
    obtain ⟨w2, l2, e2, k2⟩ := word_ok (t := a.drop 8) (by simp; omega)
    obtain ⟨w3, l3, e3, k3⟩ := word_ok (t := a.drop 16) (by simp; omega)
    obtain ⟨w4, l4, e4, k4⟩ := word_ok (t := a.drop 24) (by simp; omega)
    simp only [Option.bind_some]
    rw [e1, e2, e3, e4]
    simp only [Option.bind_some]
    rw [or_u64 l1 l2, or_u64 l3 l4, or_u64 (or_lt l1 l2) (or_lt l3 l4)]
    unfold unicode_utf8_ValidString_K4
    split
    · rename_i hc
      obtain ⟨g12, g34⟩ := lowW_or (lowW_of (or_lt (or_lt l1 l2) (or_lt l3 l4)) hc)
      obtain ⟨g1, g2⟩ := lowW_or g12
      obtain ⟨g3, g4⟩ := lowW_or g34
      rw [show (32 : Int) = ((32 : Nat) : Int) from rfl, sub_tail (by omega)]
      refine .inl ⟨_, rfl, ha.trans (rest_drop ?_), by simp; omega⟩
      exact mem_take_add (j := 24) (k := 8) (mem_take_add (j := 16) (k := 8) (mem_take_add (j := 8) (k := 8) (k1 g1) (k2 g2)) (k3 g3)) (k4 g4)
    · exact .inr ⟨_, rfl, a, ha, rfl⟩
  · rw [if_neg (by simp only [decide_eq_true_eq]; omega)]
    exact .inr ⟨_, rfl, a, ha, rfl⟩

/-- Behind a small byte: many small ones may be left out. -/
theorem fast_ok {t4 : List UInt8} (hbig : t4.length < 1000000000000) : ∃ t', Rest t4 t' ∧
    (if (decide ((t4.length : Int) > 8)) = true then
        (unicode_utf8_word_string t4).bind fun r6 =>
        if ((arD .and .u64 r6 9259542123273814144) == 0) = true then
          (sub t4 8 (t4.length : Int)).bind fun t7 =>
          if (decide ((t7.length : Int) > 16)) = true then
            (sub t7 8 (t7.length : Int)).bind fun t20 =>
            (unicode_utf8_word_string t7).bind fun r21 =>
            (unicode_utf8_word_string t20).bind fun r22 =>
            unicode_utf8_ValidString_K3 t7 ((arD .and .u64 (arD .or .u64 r21 r22) 9259542123273814144) == 0)
          else
            unicode_utf8_ValidString_K3 t7 false
        else
          unicode_utf8_ValidString_K2 t4
      else
        unicode_utf8_ValidString_K2 t4) = some (.inl t') := by
  by_cases h : t4.length > 8
  · rw [if_pos (by simp only [decide_eq_true_eq]; omega)]
    obtain ⟨w1, l1, e1, k1⟩ := word_ok (t := t4) (by omega)
    rw [e1]
    simp only [Option.bind_some]
    split
    · rename_i hc
      have g1 := k1 (lowW_of l1 hc)
      rw [show (8 : Int) = ((8 : Nat) : Int) from rfl, sub_tail (by omega)]
      simp only [Option.bind_some]
      have r1 := rest_drop g1
      by_cases h2 : (t4.drop 8).length > 16
      · rw [if_pos (by simp only [decide_eq_true_eq]; omega), sub_tail (by omega)]
        obtain ⟨w2, l2, e2, k2⟩ := word_ok (t := t4.drop 8) (by omega)
        obtain ⟨w3, l3, e3, k3⟩ := word_ok (t := (t4.drop 8).drop 8) (by simp only [List.length_drop] at *; omega)
        simp only [Option.bind_some]
        rw [e2, e3]
        simp only [Option.bind_some]
        rw [or_u64 l2 l3]
        unfold unicode_utf8_ValidString_K3
        split
        · rename_i hc2
          obtain ⟨g2, g3⟩ := lowW_or (lowW_of (or_lt l2 l3) hc2)
          rw [show (16 : Int) = ((16 : Nat) : Int) from rfl, sub_tail (by omega)]
          simp only [Option.bind_some]
          obtain ⟨r, hr, t', ht, rfl⟩ := L2_ok (t := (t4.drop 8).drop 16) (by simp only [List.length_drop] at *; omega)
          exact ⟨t', (r1.trans (rest_drop (mem_take_add (j := 8) (k := 8) (k2 g2) (k3 g3)))).trans ht, hr⟩
        · exact ⟨_, r1, rfl⟩
      · rw [if_neg (by simp only [decide_eq_true_eq]; omega)]
        exact ⟨_, r1, rfl⟩
    · exact ⟨_, Rest.refl _, rfl⟩
  · rw [if_neg (by simp only [decide_eq_true_eq]; omega)]
    exact ⟨_, Rest.refl _, rfl⟩

theorem utfOk_bad {l : List UInt8} (hl : l ≠ []) (h : uLen l = 0) : utfOk l = false := by rw [utfOk_step hl, h]; rfl
theorem utfOk_more {l : List UInt8} {n : Nat} (hl : l ≠ []) (h : uLen l = n) (hn : n ≠ 0) : utfOk l = utfOk (l.drop n) := by
  rw [utfOk_step hl, h]
  have : (n != 0) = true := by simpa using hn
  rw [this, Bool.true_and]
theorem contB_none {l : List UInt8} {i lo hi : Nat} (h : l.length ≤ i) : contB l i lo hi = false := by
  unfold contB
  rw [List.getElem?_eq_none h]
theorem contB_some {l : List UInt8} {i lo hi : Nat} {b : UInt8} (h : l[i]? = some b) : contB l i lo hi = (decide (lo ≤ b.toNat) && decide (b.toNat ≤ hi)) := by
  unfold contB
  rw [h]

theorem utf8_step {a : List UInt8} (hbig : a.length < 1000000000000) : (∃ a', unicode_utf8_ValidString_L1 a = some (.inl a') ∧ utfOk a' = utfOk a ∧ a'.length < a.length) ∨ unicode_utf8_ValidString_L1 a = some (.inr (utfOk a)) := by
  unfold unicode_utf8_ValidString_L1
  match a, hbig with
  | [], _ =>
    rw [if_neg (by simp)]
    exact .inr rfl
  | c :: t, hbig =>
    have hc := c.toNat_lt
    rw [if_pos (by simp only [decide_eq_true_eq, List.length_cons]; omega)]
    rw [show idx (c :: t) 0 = some c from rfl]
    simp only [Option.bind_some]
    by_cases h1 : c.toNat < 128
    · rw [if_pos (by simp only [decide_eq_true_eq]; omega)]
      rw [show (1 : Int) = ((1 : Nat) : Int) from rfl, sub_tail (by simp)]
      simp only [Option.bind_some, List.drop_succ_cons, List.drop_zero]
      obtain ⟨t', ht, he⟩ := fast_ok (t4 := t) (by simp only [List.length_cons] at hbig; omega)
      refine .inl ⟨t', he, ?_, ?_⟩
      · rw [ht.1, utfOk_one h1]
      · have := ht.2
        simp only [List.length_cons]
        omega
    · rw [if_neg (by simp only [decide_eq_true_eq]; omega)]
      obtain ⟨p, q, hp, hq, hh⟩ := tab_ok' (c := c.toNat) (by omega) (by omega)
      rw [hp]
      simp only [Option.bind_some]
      rw [hq]
      simp only [Option.bind_some]
      have hu : uLen (c :: t) = if (uCls c.toNat).1 = 2 then (if contB (c :: t) 1 (uCls c.toNat).2.1 (uCls c.toNat).2.2 = true then 2 else 0)
          else if (uCls c.toNat).1 = 3 then (if contB (c :: t) 1 (uCls c.toNat).2.1 (uCls c.toNat).2.2 = true ∧ contB (c :: t) 2 128 191 = true then 3 else 0)
          else if (uCls c.toNat).1 = 4 then (if contB (c :: t) 1 (uCls c.toNat).2.1 (uCls c.toNat).2.2 = true ∧ contB (c :: t) 2 128 191 = true ∧ contB (c :: t) 3 128 191 = true then 4 else 0)
          else 0 := by
        simp only [uLen, if_neg h1]
      generalize hl : uCls c.toNat = k at *
      obtain ⟨n, lo, hi⟩ := k
      simp only at *
      have hne : c :: t ≠ [] := by simp
      have K : ∀ b : Bool, (b = false → uLen (c :: t) = n) → (b = true → uLen (c :: t) = 0) → n ≠ 0 → n ≤ t.length + 1 ∨ b = true →
          (∃ a', (if b = true then (Option.map .inr <| some false) else (sub (c :: t) (n : Int) ((c :: t).length : Int)).bind fun t26 => some (.inl t26) : Option (List UInt8 ⊕ Bool)) = some (.inl a') ∧ utfOk a' = utfOk (c :: t) ∧ a'.length < (c :: t).length) ∨
          (if b = true then (Option.map .inr <| some false) else (sub (c :: t) (n : Int) ((c :: t).length : Int)).bind fun t26 => some (.inl t26) : Option (List UInt8 ⊕ Bool)) = some (.inr (utfOk (c :: t))) := by
        intro b k1 k2 k3 k4
        cases b with
        | true =>
          refine .inr ?_
          rw [utfOk_bad hne (k2 rfl)]
          rfl
        | false =>
          have k4 : n ≤ t.length + 1 := k4.elim id (fun h => nomatch h)
          refine .inl ⟨(c :: t).drop n, ?_, (utfOk_more hne (k1 rfl) k3).symm, by simp only [List.length_drop, List.length_cons]; omega⟩
          rw [if_neg (by simp), sub_tail (by simp only [List.length_cons]; omega)]
          rfl
      rcases hh with ⟨hn, hp7, hlo, hhi⟩ | ⟨hn, h2, h3, h4⟩
      · rw [hp7, hlo, hhi]
        rcases hn with rfl | rfl | rfl
        · rw [if_pos (show (((2 : Nat) : Int) == 2) = true from by decide)]
          rw [if_pos rfl] at hu
          match t, hbig with
          | [], _ => exact K true (fun h => nomatch h) (fun _ => by rw [hu, contB_none (by simp)]; rfl) (by decide) (.inr rfl)
          | d :: t, _ =>
            rw [contB_some (b := d) rfl] at hu
            rw [if_neg (by simp only [decide_eq_true_eq, List.length_cons]; omega), show idx (c :: d :: t) 1 = some d from rfl]
            simp only [Option.bind_some]
            by_cases g1 : d.toNat < lo
            · rw [if_pos (by simp only [decide_eq_true_eq]; omega)]
              exact K true (fun h => nomatch h) (fun _ => by rw [hu, decide_eq_false (by omega)]; rfl) (by decide) (.inr rfl)
            · rw [if_neg (by simp only [decide_eq_true_eq]; omega)]
              refine K _ (fun h => ?_) (fun h => ?_) (by decide) (.inl (by simp only [List.length_cons]; omega))
              · rw [decide_eq_false_iff_not] at h
                rw [hu, decide_eq_true (by omega), decide_eq_true (by omega)]
                rfl
              · rw [decide_eq_true_eq] at h
                rw [hu, decide_eq_true (by omega), decide_eq_false (by omega)]
                rfl
        · rw [if_neg (by decide : ¬ (((3 : Nat) : Int) == 2) = true), if_pos (show (((3 : Nat) : Int) == 3) = true from by decide)]
          rw [if_neg (by decide), if_pos rfl] at hu
          match t, hbig with
          | [], _ => exact K true (fun h => nomatch h) (fun _ => by rw [hu, contB_none (by simp)]; rfl) (by decide) (.inr rfl)
          | [d], _ => exact K true (fun h => nomatch h) (fun _ => by rw [hu, contB_none (i := 2) (by simp)]; simp) (by decide) (.inr rfl)
          | d :: e :: t, _ =>
            rw [contB_some (b := d) rfl, contB_some (b := e) (i := 2) rfl] at hu
            rw [if_neg (by simp only [decide_eq_true_eq, List.length_cons]; omega), show idx (c :: d :: e :: t) 1 = some d from rfl, show idx (c :: d :: e :: t) 2 = some e from rfl]
            simp only [Option.bind_some]
            by_cases g1 : d.toNat < lo
            · rw [if_pos (by simp only [decide_eq_true_eq]; omega)]
              exact K true (fun h => nomatch h) (fun _ => by rw [hu, decide_eq_false (by omega)]; simp) (by decide) (.inr rfl)
            · rw [if_neg (by simp only [decide_eq_true_eq]; omega)]
              by_cases g2 : hi < d.toNat
              · rw [if_pos (by simp only [decide_eq_true_eq]; omega)]
                exact K true (fun h => nomatch h) (fun _ => by rw [hu, decide_eq_false (p := d.toNat ≤ hi) (by omega)]; simp) (by decide) (.inr rfl)
              · rw [if_neg (by simp only [decide_eq_true_eq]; omega)]
                rw [decide_eq_true (p := lo ≤ d.toNat) (by omega), decide_eq_true (p := d.toNat ≤ hi) (by omega)] at hu
                by_cases g3 : e.toNat < 128
                · rw [if_pos (by simp only [decide_eq_true_eq]; omega)]
                  exact K true (fun h => nomatch h) (fun _ => by rw [hu, decide_eq_false (p := 128 ≤ e.toNat) (by omega)]; simp) (by decide) (.inr rfl)
                · rw [if_neg (by simp only [decide_eq_true_eq]; omega)]
                  refine K _ (fun h => ?_) (fun h => ?_) (by decide) (.inl (by simp only [List.length_cons]; omega))
                  · rw [decide_eq_false_iff_not] at h
                    rw [hu, decide_eq_true (by omega), decide_eq_true (by omega)]
                    rfl
                  · rw [decide_eq_true_eq] at h
                    rw [hu, decide_eq_true (by omega), decide_eq_false (by omega)]
                    rfl
        · rw [if_neg (by decide : ¬ (((4 : Nat) : Int) == 2) = true), if_neg (by decide : ¬ (((4 : Nat) : Int) == 3) = true), if_pos (show (((4 : Nat) : Int) == 4) = true from by decide)]
          rw [if_neg (by decide), if_neg (by decide), if_pos rfl] at hu
          match t, hbig with
          | [], _ => exact K true (fun h => nomatch h) (fun _ => by rw [hu, contB_none (by simp)]; rfl) (by decide) (.inr rfl)
          | [d], _ => exact K true (fun h => nomatch h) (fun _ => by rw [hu, contB_none (i := 2) (by simp)]; simp) (by decide) (.inr rfl)
          | [d, e], _ => exact K true (fun h => nomatch h) (fun _ => by rw [hu, contB_none (i := 3) (by simp)]; simp) (by decide) (.inr rfl)
          | d :: e :: f :: t, _ =>
            rw [contB_some (b := d) rfl, contB_some (b := e) (i := 2) rfl, contB_some (b := f) (i := 3) rfl] at hu
            rw [if_neg (by simp only [decide_eq_true_eq, List.length_cons]; omega), show idx (c :: d :: e :: f :: t) 1 = some d from rfl, show idx (c :: d :: e :: f :: t) 2 = some e from rfl, show idx (c :: d :: e :: f :: t) 3 = some f from rfl]
            simp only [Option.bind_some]
            by_cases g1 : d.toNat < lo
            · rw [if_pos (by simp only [decide_eq_true_eq]; omega)]
              exact K true (fun h => nomatch h) (fun _ => by rw [hu, decide_eq_false (by omega)]; simp) (by decide) (.inr rfl)
            · rw [if_neg (by simp only [decide_eq_true_eq]; omega)]
              by_cases g2 : hi < d.toNat
              · rw [if_pos (by simp only [decide_eq_true_eq]; omega)]
                exact K true (fun h => nomatch h) (fun _ => by rw [hu, decide_eq_false (p := d.toNat ≤ hi) (by omega)]; simp) (by decide) (.inr rfl)
              · rw [if_neg (by simp only [decide_eq_true_eq]; omega)]
                rw [decide_eq_true (p := lo ≤ d.toNat) (by omega), decide_eq_true (p := d.toNat ≤ hi) (by omega)] at hu
                by_cases g3 : e.toNat < 128
                · rw [if_pos (by simp only [decide_eq_true_eq]; omega)]
                  exact K true (fun h => nomatch h) (fun _ => by rw [hu, decide_eq_false (p := 128 ≤ e.toNat) (by omega)]; simp) (by decide) (.inr rfl)
                · rw [if_neg (by simp only [decide_eq_true_eq]; omega)]
                  by_cases g4 : 191 < e.toNat
                  · rw [if_pos (by simp only [decide_eq_true_eq]; omega)]
                    exact K true (fun h => nomatch h) (fun _ => by rw [hu, decide_eq_false (p := e.toNat ≤ 191) (by omega)]; simp) (by decide) (.inr rfl)
                  · rw [if_neg (by simp only [decide_eq_true_eq]; omega)]
                    rw [decide_eq_true (p := 128 ≤ e.toNat) (by omega), decide_eq_true (p := e.toNat ≤ 191) (by omega)] at hu
                    by_cases g5 : f.toNat < 128
                    · rw [if_pos (by simp only [decide_eq_true_eq]; omega)]
                      exact K true (fun h => nomatch h) (fun _ => by rw [hu, decide_eq_false (p := 128 ≤ f.toNat) (by omega)]; simp) (by decide) (.inr rfl)
                    · rw [if_neg (by simp only [decide_eq_true_eq]; omega)]
                      refine K _ (fun h => ?_) (fun h => ?_) (by decide) (.inl (by simp only [List.length_cons]; omega))
                      · rw [decide_eq_false_iff_not] at h
                        rw [hu, decide_eq_true (by omega), decide_eq_true (by omega)]
                        rfl
                      · rw [decide_eq_true_eq] at h
                        rw [hu, decide_eq_true (by omega), decide_eq_false (by omega)]
                        rfl
      · rw [h2, h3, h4]
        simp only [Bool.false_eq_true, if_false]
        rw [utfOk_bad hne]
        · exact .inr rfl
        · rw [hu, if_neg (fun h => hn (.inl h)), if_neg (fun h => hn (.inr (.inl h))), if_neg (fun h => hn (.inr (.inr h)))]
theorem valid_eq {s : List UInt8} (hbig : s.length < 1000000000000) : unicode_utf8_ValidString s = some (utfOk s) := by
  unfold unicode_utf8_ValidString
  refine iter_eq (fun a => utfOk a = utfOk s ∧ a.length ≤ s.length) (fun a => a.length) _ ?_ ⟨rfl, Nat.le_refl _⟩ (lt_ROUNDS (by omega))
  rintro a ⟨h1, h2⟩
  rcases utf8_step (a := a) (by omega) with ⟨a', e1, e2, e3⟩ | e
  · exact .inl ⟨a', e1, ⟨e2.trans h1, by omega⟩, e3⟩
  · exact .inr (by rw [e, h1])
end Go.Vg

/- Pictures. -/
namespace Go.Vg

def lineI (d : List Int) : List Int := bigB 4 d.length ++ d
theorem lineI_len (d : List Int) : (lineI d).length = d.length + 4 := by simp [lineI, bigB_len]; omega
def fourV (b : List Int) : Nat := bigN (b.take 4)
theorem four_is {b : List Int} (hb : isB b) (h : 4 ≤ b.length) : b = bigB 4 (fourV b) ++ b.drop 4 := by
  have e : (b.take 4).length = 4 := by simp; omega
  have := bigB_bigN (isB_take hb 4)
  rw [e] at this
  unfold fourV
  rw [this, List.take_append_drop]
theorem four_at {n : Nat} {r : List Int} (hn : n < 4294967296) : 4 ≤ (bigB 4 n ++ r).length ∧ fourV (bigB 4 n ++ r) = n ∧ (bigB 4 n ++ r).drop 4 = r := by
  refine ⟨by simp [bigB_len], ?_, List.drop_left' (bigB_len _ _)⟩
  unfold fourV
  rw [List.take_left' (bigB_len _ _), bigN_bigB (by omega)]
theorem fourV_lt {b : List Int} (hb : isB b) (h : 4 ≤ b.length) : fourV b < 4294967296 := by
  have := bigN_lt (isB_take hb 4)
  rw [List.length_take, Nat.min_eq_left h] at this
  unfold fourV
  omega
def textOk (b : List Int) : Prop := 4 ≤ b.length ∧ fourV b + 4 ≤ b.length
instance (b : List Int) : Decidable (textOk b) := inferInstanceAs (Decidable (_ ∧ _))
def textI (b : List Int) : List Int := (b.drop 4).take (fourV b)
def textR (b : List Int) : List Int := b.drop (4 + fourV b)
theorem text_is {b : List Int} (hb : isB b) (h : textOk b) : b = lineI (textI b) ++ textR b := by
  have e1 : (textI b).length = fourV b := by
    unfold textI
    rw [List.length_take, List.length_drop, Nat.min_eq_left (by have := h.2; omega)]
  unfold lineI
  rw [e1, List.append_assoc]
  unfold textI textR
  rw [← List.drop_drop, List.take_append_drop]
  exact four_is hb h.1
theorem text_at {d : List Int} {r : List Int} (hs : d.length < 4294967296) : textOk (lineI d ++ r) ∧ textI (lineI d ++ r) = d ∧ textR (lineI d ++ r) = r := by
  obtain ⟨h1, h2, h3⟩ := four_at (n := d.length) (r := d ++ r) hs
  have e : lineI d ++ r = bigB 4 d.length ++ (d ++ r) := by rw [lineI, List.append_assoc]
  rw [← e] at h1 h2 h3
  unfold textOk textI textR
  rw [h2, ← List.drop_drop, h3]
  refine ⟨⟨h1, ?_⟩, ?_, ?_⟩
  · rw [List.length_append, lineI_len]; omega
  · rw [List.take_left' rfl]
  · rw [List.drop_left' rfl]
theorem four_yes {b : List Int} {bad : Bool} (hb : isB b) (h : 4 ≤ b.length) : tags_reader_four ⟨b, false, bad⟩ = some ((fourV b : Int), b.drop 4, false) := four_ok (r := ⟨b, false, bad⟩) h hb
theorem four_no {b : List Int} {bad e : Bool} (h : ¬ 4 ≤ b.length) : tags_reader_four ⟨b, e, bad⟩ = some (0, [], true) := four_end (r := ⟨b, e, bad⟩) (by simp only; omega)
theorem text2_yes {b : List Int} {bad : Bool} (hb : isB b) (h : textOk b) : tags_reader_text ⟨b, false, bad⟩ = some (bstr (textI b), textR b, false) := text2_ok (r := ⟨b, false, bad⟩) h.1 hb rfl h.2 rfl
theorem text2_no {b : List Int} {bad : Bool} (hb : isB b) (h : ¬ textOk b) : tags_reader_text ⟨b, false, bad⟩ = some ([], [], true) :=
  text2_end (r := ⟨b, false, bad⟩) hb (fun h => nomatch h) (by
    unfold textOk fourV at h
    simp only
    omega)
theorem four_past {bad : Bool} : tags_reader_four ⟨[], true, bad⟩ = some (0, [], true) := four_no (by simp)
theorem text2_past {bad : Bool} : tags_reader_text ⟨[], true, bad⟩ = some ([], [], true) := text2_end (r := ⟨[], true, bad⟩) (fun x hx => by cases hx) (fun _ => rfl) (.inl (by simp))

/-- A picture's bytes. -/
def pBytes (p : tags_Picture) : List Int := bigB 4 p.Kind.toNat ++ (lineI (bytesI p.Mime) ++ (lineI (bytesI p.Text) ++ (bigB 4 p.Width.toNat ++ (bigB 4 p.Height.toNat ++ (bigB 4 p.Bits.toNat ++ (bigB 4 p.Colors.toNat ++ lineI p.Data))))))
def okI (a b : Int) (x : Int) : Bool := decide (a ≤ x) && decide (x ≤ b)
def pOk1 (p : tags_Picture) : Bool := letterB 32 126 p.Mime && utfOk p.Text
def pOk2 (p : tags_Picture) : Bool := okI 0 20 p.Kind && (okI 0 4294967295 p.Width && (okI 0 4294967295 p.Height && (okI 0 4294967295 p.Bits && okI 0 4294967295 p.Colors)))
def writeP (p : tags_Picture) : List Int × Int := if pOk1 p = true then (if pOk2 p = true then (if (pBytes p).length > 16777215 then ([], 21) else (pBytes p, 0)) else ([], 10)) else ([], 12)
theorem pBytes_len (p : tags_Picture) : (pBytes p).length = p.Mime.length + p.Text.length + p.Data.length + 32 := by
  simp only [pBytes, List.length_append, bigB_len, lineI_len, bytesI_len]
  omega
theorem okI_is {a b x : Int} (h : okI a b x = true) : a ≤ x ∧ x ≤ b := by simpa [okI] using h
theorem pic_loop {p : tags_Picture} {b : List Int} (h2 : pOk2 p = true) (hl : b.length + p.Data.length < 1000000000000) : tags_Picture_Write_K1 p b = some (let x := b ++ (bigB 4 p.Width.toNat ++ (bigB 4 p.Height.toNat ++ (bigB 4 p.Bits.toNat ++ (bigB 4 p.Colors.toNat ++ lineI p.Data)))); if x.length > 16777215 then ([], 21) else (x, 0)) := by
  simp only [pOk2, Bool.and_eq_true] at h2
  obtain ⟨g0, g1, g2, g3, g4⟩ := h2
  have g1 := okI_is g1
  have g2 := okI_is g2
  have g3 := okI_is g3
  have g4 := okI_is g4
  obtain ⟨w, hw⟩ := Int.eq_ofNat_of_zero_le g1.1
  obtain ⟨hh, hhh⟩ := Int.eq_ofNat_of_zero_le g2.1
  obtain ⟨bi, hbi⟩ := Int.eq_ofNat_of_zero_le g3.1
  obtain ⟨co, hco⟩ := Int.eq_ofNat_of_zero_le g4.1
  unfold tags_Picture_Write_K1
  generalize hns : [w, hh, bi, co, p.Data.length] = ns
  have hn5 : ns.length = 5 := by rw [← hns]; rfl
  have hcast : [p.Width, p.Height, p.Bits, p.Colors, (p.Data.length : Int)] = ns.map (fun n : Nat => (n : Int)) := by rw [hw, hhh, hbi, hco, ← hns]; rfl
  have hflat : ∀ i, ((ns.take i).flatMap (bigB 4)).length ≤ 4 * i := by
    intro i
    rw [List.length_flatMap]
    have : ∀ (l : List Nat), (l.map (fun a => (bigB 4 a).length)).sum = 4 * l.length := by
      intro l
      induction l with
      | nil => rfl
      | cons a l ih => rw [List.map_cons, List.sum_cons, ih, bigB_len, List.length_cons]; omega
    rw [this, List.length_take]
    omega
  refine iter_eq (fun a => ∃ i : Nat, i ≤ 5 ∧ a = ((i : Int), b ++ (ns.take i).flatMap (bigB 4))) (fun a => 5 - a.1.toNat) _ ?_ ⟨0, Nat.zero_le _, by simp⟩ (lt_ROUNDS (by simp only; omega))
  rintro a ⟨i, hi, rfl⟩
  unfold tags_Picture_Write_L1
  have hfi := hflat i
  by_cases h : i < 5
  · refine .inl ⟨_, ?_, ⟨i + 1, h, rfl⟩, ?_⟩
    · have hlt : i < ns.length := by omega
      rw [if_pos (by simp only [decide_eq_true_eq]; omega), hcast, idx_ok (x := (ns[i] : Int)) (by rw [List.getElem?_map, List.getElem?_eq_getElem hlt]; rfl), Option.bind_some, show (4 : Int) = ((4 : Nat) : Int) from rfl, tags_high_eq (by decide), Option.bind_some, app_ok (by simp only [List.length_append, bigB_len]; omega), Option.bind_some, W_succ (by omega), take_succ_get hlt, List.flatMap_append, List.flatMap_cons, List.flatMap_nil, List.append_nil, List.append_assoc]
    · simp only [Int.toNat_natCast]
      omega
  · refine .inr ?_
    have : i = 5 := by omega
    subst this
    rw [if_neg (by simp), List.take_of_length_le (by omega)]
    unfold tags_Picture_Write_K2
    rw [List.take_of_length_le (by omega)] at hfi
    have e : b ++ ns.flatMap (bigB 4) ++ p.Data = b ++ (bigB 4 p.Width.toNat ++ (bigB 4 p.Height.toNat ++ (bigB 4 p.Bits.toNat ++ (bigB 4 p.Colors.toNat ++ lineI p.Data)))) := by
      rw [hw, hhh, hbi, hco, ← hns]
      simp [lineI]
    rw [app_ok (by simp only [List.length_append]; omega), Option.bind_some, full_eq, Option.bind_some, e]
    rfl
theorem writeP_eq {p : tags_Picture} (hn : (pBytes p).length < 100000000000) : tags_Picture_Write p = some (writeP p) := by
  rw [pBytes_len] at hn
  unfold tags_Picture_Write writeP
  rw [letters_eq (by omega), Option.bind_some]
  unfold pOk1
  cases hm : letterB 32 126 p.Mime with
  | false => simp
  | true =>
    rw [if_neg (by simp), valid_eq (by omega), Option.bind_some]
    cases ht : utfOk p.Text with
    | false => simp
    | true =>
      rw [if_neg (by simp), within_eq (by simp), Option.bind_some, within_eq (by simp), Bool.true_and, if_pos rfl]
      have e1 : ([p.Kind].all fun x => decide ((0 : Int) ≤ x) && decide (x ≤ 20)) = okI 0 20 p.Kind := by simp [okI]
      have e2 : ([p.Width, p.Height, p.Bits, p.Colors].all fun x => decide ((0 : Int) ≤ x) && decide (x ≤ 4294967295)) = (okI 0 4294967295 p.Width && (okI 0 4294967295 p.Height && (okI 0 4294967295 p.Bits && okI 0 4294967295 p.Colors))) := by simp [okI]
      rw [e1, e2]
      cases h2 : pOk2 p with
      | false =>
        rw [if_neg (by simp : ¬ (false = true))]
        unfold pOk2 at h2
        cases hk : okI 0 20 p.Kind with
        | false => rfl
        | true =>
          rw [hk, Bool.true_and] at h2
          rw [h2]
          rfl
      | true =>
        rw [if_pos rfl]
        have h3 := h2
        unfold pOk2 at h3
        rw [Bool.and_eq_true] at h3
        rw [h3.1, h3.2, if_neg (by simp), Option.bind_some, if_neg (by simp)]
        obtain ⟨k, hk⟩ := Int.eq_ofNat_of_zero_le (okI_is h3.1).1
        rw [hk, show (4 : Int) = ((4 : Nat) : Int) from rfl, tags_high_eq (by decide), Option.bind_some, tags_high_eq (by decide), Option.bind_some, tags_high_eq (by decide), Option.bind_some]
        have e : [bigB 4 k, bigB 4 p.Mime.length, bytesI p.Mime, bigB 4 p.Text.length, bytesI p.Text].flatten = bigB 4 k ++ (lineI (bytesI p.Mime) ++ lineI (bytesI p.Text)) := by simp [lineI, bytesI_len]
        have el : (bigB 4 k ++ (lineI (bytesI p.Mime) ++ lineI (bytesI p.Text))).length = p.Mime.length + p.Text.length + 12 := by simp only [List.length_append, bigB_len, lineI_len, bytesI_len]; omega
        rw [concat_eq (by simp) (by rw [e, el]; omega), Option.bind_some, e, pic_loop h2 (by rw [el]; omega)]
        have ep : pBytes p = (bigB 4 k ++ (lineI (bytesI p.Mime) ++ lineI (bytesI p.Text))) ++ (bigB 4 p.Width.toNat ++ (bigB 4 p.Height.toNat ++ (bigB 4 p.Bits.toNat ++ (bigB 4 p.Colors.toNat ++ lineI p.Data)))) := by
          unfold pBytes
          rw [hk]
          simp
        rw [ep]

/-- A picture read, and what stands behind it. -/
def readQ (b : List Int) : Option (tags_Picture × List Int) :=
  if 4 ≤ b.length then
    let b1 := b.drop 4
    if textOk b1 then
      let b2 := textR b1
      if textOk b2 then
        let b3 := textR b2
        if 4 ≤ b3.length then
          let b4 := b3.drop 4
          if 4 ≤ b4.length then
            let b5 := b4.drop 4
            if 4 ≤ b5.length then
              let b6 := b5.drop 4
              if 4 ≤ b6.length then
                let b7 := b6.drop 4
                if textOk b7 then some (⟨fourV b, bstr (textI b1), bstr (textI b2), fourV b3, fourV b4, fourV b5, fourV b6, textI b7⟩, textR b7) else none
              else none
            else none
          else none
        else none
      else none
    else none
  else none
def noP : tags_Picture := ⟨0, [], [], 0, 0, 0, 0, []⟩
def endP (p : tags_Picture) (rest : List Int) : tags_Picture × Int := if rest ≠ [] then (noP, 12) else if (writeP p).2 ≠ 0 then (noP, (writeP p).2) else (p, 0)
def readP (b : List Int) : tags_Picture × Int := match readQ b with
  | none => (noP, 11)
  | some (p, r) => endP p r
theorem readQ_is {b r : List Int} {p : tags_Picture} (hb : isB b) (h : readQ b = some (p, r)) : b = pBytes p ++ r := by
  unfold readQ at h
  simp only at h
  split at h
  · rename_i h1
    have hb1 := isB_drop hb 4
    have e1 := four_is hb h1
    generalize b.drop 4 = b1 at *
    split at h
    · rename_i h2
      have hb2 : isB (textR b1) := isB_drop hb1 _
      have e2 := text_is hb1 h2
      have t2 : isB (textI b1) := isB_take (isB_drop hb1 _) _
      generalize textR b1 = b2 at *
      split at h
      · rename_i h3
        have hb3 : isB (textR b2) := isB_drop hb2 _
        have e3 := text_is hb2 h3
        have t3 : isB (textI b2) := isB_take (isB_drop hb2 _) _
        generalize textR b2 = b3 at *
        split at h
        · rename_i h4
          have hb4 := isB_drop hb3 4
          have e4 := four_is hb3 h4
          generalize b3.drop 4 = b4 at *
          split at h
          · rename_i h5
            have hb5 := isB_drop hb4 4
            have e5 := four_is hb4 h5
            generalize b4.drop 4 = b5 at *
            split at h
            · rename_i h6
              have hb6 := isB_drop hb5 4
              have e6 := four_is hb5 h6
              generalize b5.drop 4 = b6 at *
              split at h
              · rename_i h7
                have hb7 := isB_drop hb6 4
                have e7 := four_is hb6 h7
                generalize b6.drop 4 = b7 at *
                split at h
                · rename_i h8
                  have e8 := text_is hb7 h8
                  cases h
                  unfold pBytes
                  simp only [Int.toNat_natCast, List.append_assoc, bytesI_bstr t2, bytesI_bstr t3]
                  rw [← e8, ← e7, ← e6, ← e5, ← e4, ← e3, ← e2, ← e1]
                · cases h
              · cases h
            · cases h
          · cases h
        · cases h
      · cases h
    · cases h
  · cases h
theorem readQ_at {p : tags_Picture} (h2 : pOk2 p = true) (hl : (pBytes p).length ≤ 16777215) : readQ (pBytes p) = some (p, []) := by
  rw [pBytes_len] at hl
  simp only [pOk2, Bool.and_eq_true] at h2
  obtain ⟨g0, g1, g2, g3, g4⟩ := h2
  have g0 := okI_is g0
  have g1 := okI_is g1
  have g2 := okI_is g2
  have g3 := okI_is g3
  have g4 := okI_is g4
  obtain ⟨K, M, T, W, H, B, C, D⟩ := p
  simp only at *
  obtain ⟨k, rfl⟩ := Int.eq_ofNat_of_zero_le g0.1
  obtain ⟨w, rfl⟩ := Int.eq_ofNat_of_zero_le g1.1
  obtain ⟨x, rfl⟩ := Int.eq_ofNat_of_zero_le g2.1
  obtain ⟨y, rfl⟩ := Int.eq_ofNat_of_zero_le g3.1
  obtain ⟨z, rfl⟩ := Int.eq_ofNat_of_zero_le g4.1
  unfold pBytes readQ
  simp only [Int.toNat_natCast]
  obtain ⟨a1, a2, a3⟩ := four_at (n := k) (r := lineI (bytesI M) ++ (lineI (bytesI T) ++ (bigB 4 w ++ (bigB 4 x ++ (bigB 4 y ++ (bigB 4 z ++ lineI D)))))) (by omega)
  rw [if_pos a1, a2, a3]
  obtain ⟨a1, a2, a3⟩ := text_at (d := bytesI M) (r := lineI (bytesI T) ++ (bigB 4 w ++ (bigB 4 x ++ (bigB 4 y ++ (bigB 4 z ++ lineI D))))) (by rw [bytesI_len]; omega)
  rw [if_pos a1, a2, a3]
  obtain ⟨a1, a2, a3⟩ := text_at (d := bytesI T) (r := bigB 4 w ++ (bigB 4 x ++ (bigB 4 y ++ (bigB 4 z ++ lineI D)))) (by rw [bytesI_len]; omega)
  rw [if_pos a1, a2, a3]
  obtain ⟨a1, a2, a3⟩ := four_at (n := w) (r := bigB 4 x ++ (bigB 4 y ++ (bigB 4 z ++ lineI D))) (by omega)
  rw [if_pos a1, a2, a3]
  obtain ⟨a1, a2, a3⟩ := four_at (n := x) (r := bigB 4 y ++ (bigB 4 z ++ lineI D)) (by omega)
  rw [if_pos a1, a2, a3]
  obtain ⟨a1, a2, a3⟩ := four_at (n := y) (r := bigB 4 z ++ lineI D) (by omega)
  rw [if_pos a1, a2, a3]
  obtain ⟨a1, a2, a3⟩ := four_at (n := z) (r := lineI D) (by omega)
  rw [if_pos a1, a2, a3]
  obtain ⟨a1, a2, a3⟩ := text_at (d := D) (r := []) (by omega)
  rw [List.append_nil] at a1 a2 a3
  rw [if_pos a1, a2, a3, bstr_bytesI, bstr_bytesI]
/-- **Read of Write is the picture.** -/
theorem readP_writeP {p : tags_Picture} (h : (writeP p).2 = 0) : writeP p = (pBytes p, 0) ∧ readP (pBytes p) = (p, 0) := by
  have h0 := h
  unfold writeP at h
  split at h
  · rename_i h1
    split at h
    · rename_i h2
      split at h
      · cases h
      · rename_i h3
        refine ⟨by unfold writeP; rw [if_pos h1, if_pos h2, if_neg h3], ?_⟩
        unfold readP
        rw [readQ_at h2 (by omega)]
        unfold endP
        simp only [ne_eq, not_true, if_false]
        rw [if_neg (fun h => h h0)]
    · cases h
  · cases h
theorem writeP_readP {b : List Int} (hb : isB b) (h : (readP b).2 = 0) : writeP (readP b).1 = (b, 0) ∧ pBytes (readP b).1 = b := by
  revert h
  unfold readP
  cases hq : readQ b with
  | none => intro h; cases h
  | some x =>
    obtain ⟨p, r⟩ := x
    have e := readQ_is hb hq
    unfold endP
    simp only
    intro h
    by_cases hr : r = []
    · subst hr
      rw [List.append_nil] at e
      simp only [ne_eq, not_true, if_false] at h ⊢
      by_cases hw : (writeP p).2 = 0
      · rw [if_neg (fun h => h hw), (readP_writeP hw).1, ← e]
        exact ⟨rfl, rfl⟩
      · rw [if_pos hw] at h
        exact absurd h hw
    · rw [if_pos hr] at h
      cases h
end Go.Vg

/- Pictures read. -/
namespace Go.Vg

theorem over_end {b : List Int} {bad : Bool} : tags_reader_over ⟨b, true, bad⟩ = some 11 := rfl
theorem over_ok {b : List Int} : tags_reader_over ⟨b, false, false⟩ = some (if b ≠ [] then 12 else 0) := by
  unfold tags_reader_over
  simp only [Bool.false_eq_true, if_false]
  by_cases hb : b = []
  · subst hb
    rw [if_neg (by simp)]
    rfl
  · rw [if_pos (by simp only [decide_eq_true_eq]; have := List.length_pos_iff.2 hb; omega), if_pos hb]
theorem readP_eq {b : List Int} (hb : isB b) (hn : b.length < 10000000000) : tags_ReadPicture b = some (readP b) := by
  unfold tags_ReadPicture readP
  by_cases h1 : 4 ≤ b.length
  case neg =>
    have e : readQ b = none := by unfold readQ; rw [if_neg h1]
    rw [four_no h1, e]
    simp only [Option.bind_some, four_past, text2_past, over_end]
    rfl
  have hb1 := isB_drop hb 4
  rw [four_yes hb h1, Option.bind_some]
  by_cases h2 : textOk (b.drop 4)
  case neg =>
    have e : readQ b = none := by unfold readQ; rw [if_pos h1]; simp only; rw [if_neg h2]
    rw [text2_no hb1 h2, e]
    simp only [Option.bind_some, four_past, text2_past, over_end]
    rfl
  have hb2 : isB (textR (b.drop 4)) := isB_drop hb1 _
  rw [text2_yes hb1 h2, Option.bind_some]
  by_cases h3 : textOk (textR (b.drop 4))
  case neg =>
    have e : readQ b = none := by unfold readQ; rw [if_pos h1]; simp only; rw [if_pos h2, if_neg h3]
    rw [text2_no hb2 h3, e]
    simp only [Option.bind_some, four_past, text2_past, over_end]
    rfl
  have hb3 : isB (textR (textR (b.drop 4))) := isB_drop hb2 _
  rw [text2_yes hb2 h3, Option.bind_some]
  by_cases h4 : 4 ≤ (textR (textR (b.drop 4))).length
  case neg =>
    have e : readQ b = none := by unfold readQ; rw [if_pos h1]; simp only; rw [if_pos h2, if_pos h3, if_neg h4]
    rw [four_no h4, e]
    simp only [Option.bind_some, four_past, text2_past, over_end]
    rfl
  have hb4 := isB_drop hb3 4
  rw [four_yes hb3 h4, Option.bind_some]
  by_cases h5 : 4 ≤ ((textR (textR (b.drop 4))).drop 4).length
  case neg =>
    have e : readQ b = none := by unfold readQ; rw [if_pos h1]; simp only; rw [if_pos h2, if_pos h3, if_pos h4, if_neg h5]
    rw [four_no h5, e]
    simp only [Option.bind_some, four_past, text2_past, over_end]
    rfl
  have hb5 := isB_drop hb4 4
  rw [four_yes hb4 h5, Option.bind_some]
  by_cases h6 : 4 ≤ (((textR (textR (b.drop 4))).drop 4).drop 4).length
  case neg =>
    have e : readQ b = none := by unfold readQ; rw [if_pos h1]; simp only; rw [if_pos h2, if_pos h3, if_pos h4, if_pos h5, if_neg h6]
    rw [four_no h6, e]
    simp only [Option.bind_some, four_past, text2_past, over_end]
    rfl
  have hb6 := isB_drop hb5 4
  rw [four_yes hb5 h6, Option.bind_some]
  by_cases h7 : 4 ≤ ((((textR (textR (b.drop 4))).drop 4).drop 4).drop 4).length
  case neg =>
    have e : readQ b = none := by unfold readQ; rw [if_pos h1]; simp only; rw [if_pos h2, if_pos h3, if_pos h4, if_pos h5, if_pos h6, if_neg h7]
    rw [four_no h7, e]
    simp only [Option.bind_some, four_past, text2_past, over_end]
    rfl
  have hb7 := isB_drop hb6 4
  rw [four_yes hb6 h7, Option.bind_some]
  by_cases h8 : textOk (((((textR (textR (b.drop 4))).drop 4).drop 4).drop 4).drop 4)
  case neg =>
    have e : readQ b = none := by unfold readQ; rw [if_pos h1]; simp only; rw [if_pos h2, if_pos h3, if_pos h4, if_pos h5, if_pos h6, if_pos h7, if_neg h8]
    rw [text2_no hb7 h8, e]
    simp only [Option.bind_some, over_end]
    rfl
  obtain ⟨b7, hb7e⟩ : ∃ b7, b7 = ((((textR (textR (b.drop 4))).drop 4).drop 4).drop 4).drop 4 := ⟨_, rfl⟩
  rw [text2_yes hb7 h8, Option.bind_some]
  have t8 : isB (textI (((((textR (textR (b.drop 4))).drop 4).drop 4).drop 4).drop 4)) := isB_take (isB_drop hb7 _) _
  have e : readQ b = some (⟨fourV b, bstr (textI (b.drop 4)), bstr (textI (textR (b.drop 4))), fourV (textR (textR (b.drop 4))), fourV ((textR (textR (b.drop 4))).drop 4), fourV (((textR (textR (b.drop 4))).drop 4).drop 4), fourV ((((textR (textR (b.drop 4))).drop 4).drop 4).drop 4), textI (((((textR (textR (b.drop 4))).drop 4).drop 4).drop 4).drop 4)⟩, textR (((((textR (textR (b.drop 4))).drop 4).drop 4).drop 4).drop 4)) := by
    unfold readQ; rw [if_pos h1]; simp only; rw [if_pos h2, if_pos h3, if_pos h4, if_pos h5, if_pos h6, if_pos h7, if_pos h8]
  have hq := congrArg List.length (readQ_is hb e)
  rw [e, over_ok, Option.bind_some]
  simp only [bytesI_bstr t8]
  generalize textR (((((textR (textR (b.drop 4))).drop 4).drop 4).drop 4).drop 4) = rest at *
  rw [List.length_append] at hq
  unfold endP
  by_cases hr : rest = []
  · subst hr
    rw [if_neg (by simp : ¬ ([] : List Int) ≠ []), if_neg (by decide), writeP_eq (by omega), Option.bind_some, if_neg (by simp : ¬ ([] : List Int) ≠ [])]
    generalize writeP _ = wv
    by_cases hw : wv.2 = 0
    · rw [if_neg (by simp [hw]), if_neg (by simp [hw])]
    · rw [if_pos (by simp [hw]), if_pos hw]
      rfl
  · rw [if_pos hr, if_pos (by decide), if_pos hr]
    rfl

theorem awake_holds : jetsamlaw13_awake = some true := by kernel_rfl
theorem picture_eq {p : tags_Picture} (hn : p.Data.length < 10000000000) : jetsamlaw13_picture p p = some true := by
  unfold jetsamlaw13_picture
  rw [if_pos (by simp), bytes_eq (by omega), Option.bind_some]
  simp

end Go.Vg

/- The document's answer: which texts are UTF-8. -/
namespace Go.Vg

def isCont (b : UInt8) : Bool := decide (128 ≤ b.toNat) && decide (b.toNat ≤ 191)
def contV (v : Nat) (l : List UInt8) : Nat := l.foldl (fun v b => 64 * v + b.toNat - 128) v
theorem contV_snoc (v : Nat) (l : List UInt8) (b : UInt8) : contV v (l ++ [b]) = 64 * contV v l + b.toNat - 128 := by simp [contV]
theorem contV_lt {v : Nat} : ∀ (l : List UInt8), v < 128 → contV v l < 128 * 256 ^ l.length := fun l hv => by
  refine snoc_ind (P := fun l => contV v l < 128 * 256 ^ l.length) (by simpa [contV] using hv) (fun l b ih => ?_) l
  rw [contV_snoc, List.length_append, List.length_singleton, Nat.pow_succ]
  have := b.toNat_lt
  have h : 1 ≤ 256 ^ l.length := Nat.pow_pos (by decide)
  omega
theorem drop_get {α : Type} {s : List α} {i j : Nat} : (s.drop i)[j]? = s[i + j]? := by rw [List.getElem?_drop]
theorem cont_loop {s ds : List UInt8} {i n v0 : Nat} {least : Int} (hi : i < 1000000000000) (hds : (s.drop (i + 1)).take ds.length = ds) (hn : ds.length + 1 = n) (hn4 : n ≤ 4) (hv : v0 < 128) :
    iter (jetsamref13_Text_L2 s (i : Int) ((n : Int), least)) ((v0 : Int), 1) = if ds.all isCont = true then jetsamref13_Text_K4 (i : Int) ((n : Int), least) (contV v0 ds : Int) else some (.inr false) := by
  have key : ∀ a : Int × Int, (∃ j : Nat, j ≤ ds.length ∧ a = ((contV v0 (ds.take j) : Int), ((j + 1 : Nat) : Int)) ∧ (ds.take j).all isCont = true) →
      (∃ a', jetsamref13_Text_L2 s (i : Int) ((n : Int), least) a = some (.inl a') ∧ (∃ j : Nat, j ≤ ds.length ∧ a' = ((contV v0 (ds.take j) : Int), ((j + 1 : Nat) : Int)) ∧ (ds.take j).all isCont = true) ∧ 10 - a'.2.toNat < 10 - a.2.toNat) ∨
      jetsamref13_Text_L2 s (i : Int) ((n : Int), least) a = (if ds.all isCont = true then jetsamref13_Text_K4 (i : Int) ((n : Int), least) (contV v0 ds : Int) else some (.inr false)).map .inr := by
    rintro a ⟨j, hj, rfl, hall⟩
    unfold jetsamref13_Text_L2
    by_cases h : j < ds.length
    · have hg : s[i + (j + 1)]? = some ds[j] := by
        have h1 : ((s.drop (i + 1)).take ds.length)[j]? = ds[j]? := by rw [hds]
        rw [List.getElem?_take_of_lt h, drop_get, List.getElem?_eq_getElem h] at h1
        rw [show i + (j + 1) = i + 1 + j by omega]
        exact h1
      rw [if_pos (by simp only [decide_eq_true_eq]; omega)]
      have e1 : W ((i : Int) + ((j + 1 : Nat) : Int)) = ((i + (j + 1) : Nat) : Int) := W_add (by omega)
      simp only [e1, idx_ok hg, Option.bind_some]
      have hb := (ds[j]).toNat_lt
      by_cases c1 : (ds[j]).toNat < 128
      · rw [if_pos (by simp only [decide_eq_true_eq]; omega)]
        refine .inr ?_
        rw [if_neg]
        · rfl
        · intro h2
          have := List.all_eq_true.1 h2 ds[j] (List.getElem_mem h)
          simp only [isCont, Bool.and_eq_true, decide_eq_true_eq] at this
          omega
      · rw [if_neg (by simp only [decide_eq_true_eq]; omega)]
        by_cases c2 : (ds[j]).toNat > 191
        · rw [if_pos (by simp only [decide_eq_true_eq]; omega)]
          refine .inr ?_
          rw [if_neg]
          · rfl
          · intro h2
            have := List.all_eq_true.1 h2 ds[j] (List.getElem_mem h)
            simp only [isCont, Bool.and_eq_true, decide_eq_true_eq] at this
            omega
        · rw [if_neg (by simp only [decide_eq_true_eq]; omega)]
          have hlt := contV_lt (ds.take j) hv
          rw [List.length_take, Nat.min_eq_left hj] at hlt
          have hp : 256 ^ j ≤ 256 ^ 3 := Nat.pow_le_pow_right (by decide) (by omega)
          refine .inl ⟨_, rfl, ⟨j + 1, h, ?_, ?_⟩, ?_⟩
          · rw [take_succ_get h, contV_snoc]
            rw [W_id (x := 64 * (contV v0 (ds.take j) : Int)) (by omega) (by omega), W_id (x := 64 * (contV v0 (ds.take j) : Int) + _) (by omega) (by omega), W_id (by omega) (by omega), W_succ (by omega)]
            congr 1
            omega
          · rw [all_take_snoc h, hall]
            simp only [isCont, Bool.true_and, Bool.and_eq_true, decide_eq_true_eq]
            omega
          · rw [W_succ (by omega)]
            simp only [Int.toNat_natCast]
            omega
    · have hjd : j = ds.length := by omega
      subst hjd
      rw [List.take_length] at hall ⊢
      rw [if_neg (by simp only [decide_eq_true_eq]; omega), if_pos hall]
      exact .inr rfl
  generalize hR : (if ds.all isCont = true then jetsamref13_Text_K4 (i : Int) ((n : Int), least) (contV v0 ds : Int) else some (.inr false)) = R at key ⊢
  have hsome : ∃ x, R = some x := by
    rw [← hR]
    split
    · unfold jetsamref13_Text_K4
      repeat' split
      all_goals exact ⟨_, rfl⟩
    · exact ⟨_, rfl⟩
  obtain ⟨x, rfl⟩ := hsome
  exact iter_eq _ (fun a => 10 - a.2.toNat) x key ⟨0, Nat.zero_le _, rfl, rfl⟩ (lt_ROUNDS (by simp only; omega))
theorem K4_ok {i n : Nat} {least : Int} {v : Nat} (h : ¬ ((v : Int) < least ∨ v > 1114111 ∨ (55296 ≤ v ∧ v ≤ 57343))) (hi : i + n ≤ 9223372036854775807) : jetsamref13_Text_K4 (i : Int) ((n : Int), least) (v : Int) = some (.inl ((i + n : Nat) : Int)) := by
  unfold jetsamref13_Text_K4
  rw [if_neg, W_add hi]
  intro h2
  apply h
  by_cases c1 : (v : Int) < least
  · exact .inl c1
  · rw [decide_eq_false c1] at h2
    by_cases c2 : v > 1114111
    · exact .inr (.inl c2)
    · rw [decide_eq_false (by omega : ¬ (v : Int) > 1114111)] at h2
      simp at h2
      omega
theorem K4_bad {i n : Nat} {least : Int} {v : Nat} (h : (v : Int) < least ∨ v > 1114111 ∨ (55296 ≤ v ∧ v ≤ 57343)) : jetsamref13_Text_K4 (i : Int) ((n : Int), least) (v : Int) = some (.inr false) := by
  unfold jetsamref13_Text_K4
  rw [if_pos]
  · rfl
  · rcases h with h | h | h
    · rw [decide_eq_true h]; rfl
    · rw [decide_eq_true (by omega : (v : Int) > 1114111)]; split <;> rfl
    · rw [decide_eq_true (by omega : (v : Int) ≥ 55296), decide_eq_true (by omega : (v : Int) ≤ 57343)]
      simp
/-- One sign of the reference. -/
theorem text_step {s : List UInt8} {i : Nat} (hs : s.length < 100000000000) (hi : i < s.length) :
    jetsamref13_Text_L1 s (i : Int) = some (if uLen (s.drop i) = 0 then .inr false else .inl ((i + uLen (s.drop i) : Nat) : Int)) := by
  have hg : s[i]? = some s[i] := List.getElem?_eq_getElem hi
  have hdrop : s.drop i = s[i] :: s.drop (i + 1) := List.drop_eq_getElem_cons hi
  have hdl : (s.drop (i + 1)).length = s.length - (i + 1) := List.length_drop ..
  unfold jetsamref13_Text_L1
  rw [if_pos (by simp only [decide_eq_true_eq]; omega), idx_ok hg, Option.bind_some, hdrop]
  generalize s[i] = c at *
  have hc := c.toNat_lt
  have K2 : ∀ (n v0 : Nat) (least : Int) (ds r : List UInt8), 1 ≤ n → n ≤ 4 → s.drop (i + 1) = ds ++ r → ds.length + 1 = n → v0 < 128 → v0 = (if n > 1 then c.toNat % (128 / 2 ^ n) else c.toNat) →
      jetsamref13_Text_K2 s (i : Int) c ((n : Int), least) = if ds.all isCont = true then jetsamref13_Text_K4 (i : Int) ((n : Int), least) (contV v0 ds : Int) else some (.inr false) := by
    intro n v0 least ds r h1 h4 hd hl hv hve
    have hds : (s.drop (i + 1)).take ds.length = ds := by rw [hd, List.take_left' rfl]
    have hsl : i + n ≤ s.length := by
      have := congrArg List.length hd
      rw [hdl, List.length_append] at this
      omega
    unfold jetsamref13_Text_K2
    simp only
    rw [W_add (by omega), if_neg]
    · by_cases hn : n > 1
      · rw [if_pos (by simp only [decide_eq_true_eq]; omega), need_ok (by simp only [decide_eq_true_eq]; omega)]
        rw [if_pos hn] at hve
        rw [show (128 : Int) = ((128 : Nat) : Int) from rfl, shr_nat (by omega), need_ok]
        · unfold jetsamref13_Text_K3
          rw [show ((c.toNat : Int).tmod ((128 / 2 ^ n : Nat) : Int)) = (v0 : Int) by rw [hve]; rfl]
          exact cont_loop (by omega) hds hl h4 hv
        · have : n = 2 ∨ n = 3 ∨ n = 4 := by omega
          rcases this with rfl | rfl | rfl <;> decide
      · rw [if_neg (by simp only [decide_eq_true_eq]; omega)]
        rw [if_neg hn] at hve
        unfold jetsamref13_Text_K3
        rw [← hve]
        exact cont_loop (by omega) hds hl h4 hv
    · simp
      omega
  have K2bad : ∀ (n : Nat) (least : Int), i + n > s.length → n ≤ 4 → jetsamref13_Text_K2 s (i : Int) c ((n : Int), least) = some (.inr false) := by
    intro n least h h4
    unfold jetsamref13_Text_K2
    simp only
    rw [W_add (by omega), if_pos]
    · rfl
    · simp
      omega
  generalize hrest : s.drop (i + 1) = rest at *
  by_cases a1 : c.toNat < 128
  · rw [if_pos (by simp only [decide_eq_true_eq]; omega)]
    have := K2 1 c.toNat 0 [] rest (by decide) (by decide) rfl rfl a1 rfl
    rw [show ((1 : Int), (0 : Int)) = (((1 : Nat) : Int), (0 : Int)) from rfl, this, if_pos (show ([] : List UInt8).all isCont = true from rfl)]
    have hu : uLen (c :: rest) = 1 := by simp [uLen, a1]
    rw [hu, if_neg (by decide)]
    exact K4_ok (by simp [contV]; omega) (by omega)
  · rw [if_neg (by simp only [decide_eq_true_eq]; omega)]
    have hu : uLen (c :: rest) = if (uCls c.toNat).1 = 2 then (if contB (c :: rest) 1 (uCls c.toNat).2.1 (uCls c.toNat).2.2 = true then 2 else 0)
          else if (uCls c.toNat).1 = 3 then (if contB (c :: rest) 1 (uCls c.toNat).2.1 (uCls c.toNat).2.2 = true ∧ contB (c :: rest) 2 128 191 = true then 3 else 0)
          else if (uCls c.toNat).1 = 4 then (if contB (c :: rest) 1 (uCls c.toNat).2.1 (uCls c.toNat).2.2 = true ∧ contB (c :: rest) 2 128 191 = true ∧ contB (c :: rest) 3 128 191 = true then 4 else 0)
          else 0 := by
      simp only [uLen, if_neg a1]
    by_cases r2 : 194 ≤ c.toNat ∧ c.toNat < 224
    · rw [if_pos (by simp; omega)]
      have hcl : uCls c.toNat = (2, 128, 191) := by unfold uCls; rw [if_neg (by omega), if_pos (by omega)]
      rw [hcl, if_pos rfl] at hu
      simp only at hu
      rw [show ((2 : Int), (128 : Int)) = (((2 : Nat) : Int), (128 : Int)) from rfl]
      match rest, hrest, hdl with
      | [], hrest, hdl =>
        rw [K2bad 2 128 (by simp at hdl; omega) (by decide), hu, contB_none (by simp)]
        rfl
      | d :: r, hrest, hdl =>
        have hd := d.toNat_lt
        rw [K2 2 (c.toNat % 32) 128 [d] r (by decide) (by decide) rfl rfl (by omega) (by rw [if_pos (by decide)])]
        rw [contB_some (b := d) rfl] at hu
        by_cases c1 : 128 ≤ d.toNat ∧ d.toNat ≤ 191
        · rw [decide_eq_true c1.1, decide_eq_true c1.2] at hu
          rw [hu, if_pos (by simp [isCont, c1.1, c1.2]), K4_ok (by simp only [contV, List.foldl_cons, List.foldl_nil]; omega) (by omega)]
          rfl
        · rw [if_neg (by simp; omega)] at hu
          rw [hu, if_neg (by simp [isCont]; omega)]
          rfl
    · rw [if_neg (by simp; omega)]
      by_cases r3 : 224 ≤ c.toNat ∧ c.toNat < 240
      · rw [if_pos (by simp; omega)]
        obtain ⟨lo, hi', hcl, hlh⟩ : ∃ lo hi', uCls c.toNat = (3, lo, hi') ∧ (c.toNat = 224 ∧ lo = 160 ∧ hi' = 191 ∨ c.toNat = 237 ∧ lo = 128 ∧ hi' = 159 ∨ c.toNat ≠ 224 ∧ c.toNat ≠ 237 ∧ lo = 128 ∧ hi' = 191) := by
          unfold uCls
          by_cases e1 : c.toNat = 224
          · exact ⟨160, 191, by rw [if_neg (by omega), if_neg (by omega), if_pos e1], .inl ⟨e1, rfl, rfl⟩⟩
          · by_cases e2 : c.toNat < 237
            · exact ⟨128, 191, by rw [if_neg (by omega), if_neg (by omega), if_neg e1, if_pos e2], .inr (.inr ⟨e1, by omega, rfl, rfl⟩)⟩
            · by_cases e3 : c.toNat = 237
              · exact ⟨128, 159, by rw [if_neg (by omega), if_neg (by omega), if_neg e1, if_neg e2, if_pos e3], .inr (.inl ⟨e3, rfl, rfl⟩)⟩
              · exact ⟨128, 191, by rw [if_neg (by omega), if_neg (by omega), if_neg e1, if_neg e2, if_neg e3, if_pos (by omega)], .inr (.inr ⟨e1, e3, rfl, rfl⟩)⟩
        rw [hcl, if_neg (by simp), if_pos rfl] at hu
        simp only at hu
        rw [show ((3 : Int), (2048 : Int)) = (((3 : Nat) : Int), (2048 : Int)) from rfl]
        match rest, hrest, hdl with
        | [], hrest, hdl =>
          rw [K2bad 3 2048 (by simp at hdl; omega) (by decide), hu, contB_none (by simp)]
          rfl
        | [d], hrest, hdl =>
          rw [K2bad 3 2048 (by simp at hdl; omega) (by decide), hu, contB_none (i := 2) (by simp)]
          simp
        | d :: e :: r, hrest, hdl =>
          have hd := d.toNat_lt
          have he := e.toNat_lt
          rw [K2 3 (c.toNat % 16) 2048 [d, e] r (by decide) (by decide) rfl rfl (by omega) (by rw [if_pos (by decide)])]
          rw [contB_some (b := d) rfl, contB_some (b := e) (i := 2) rfl] at hu
          by_cases c1 : (128 ≤ d.toNat ∧ d.toNat ≤ 191) ∧ 128 ≤ e.toNat ∧ e.toNat ≤ 191
          · rw [decide_eq_true c1.2.1, decide_eq_true c1.2.2] at hu
            rw [if_pos (by simp [isCont, c1.1.1, c1.1.2, c1.2.1, c1.2.2])]
            by_cases c2 : lo ≤ d.toNat ∧ d.toNat ≤ hi'
            · rw [decide_eq_true c2.1, decide_eq_true c2.2] at hu
              rw [hu, K4_ok (by simp only [contV, List.foldl_cons, List.foldl_nil]; omega) (by omega)]
              rfl
            · rw [if_neg (by simp; omega)] at hu
              rw [hu, K4_bad (by simp only [contV, List.foldl_cons, List.foldl_nil]; omega)]
              rfl
          · rw [if_neg (by simp; omega)] at hu
            rw [hu, if_neg (by simp [isCont]; omega)]
            rfl
      · rw [if_neg (by simp; omega)]
        by_cases r4 : 240 ≤ c.toNat ∧ c.toNat < 245
        · rw [if_pos (by simp; omega)]
          obtain ⟨lo, hi', hcl, hlh⟩ : ∃ lo hi', uCls c.toNat = (4, lo, hi') ∧ (c.toNat = 240 ∧ lo = 144 ∧ hi' = 191 ∨ c.toNat = 244 ∧ lo = 128 ∧ hi' = 143 ∨ c.toNat ≠ 240 ∧ c.toNat ≠ 244 ∧ lo = 128 ∧ hi' = 191) := by
            unfold uCls
            by_cases e1 : c.toNat = 240
            · exact ⟨144, 191, by rw [if_neg (by omega), if_neg (by omega), if_neg (by omega), if_neg (by omega), if_neg (by omega), if_neg (by omega), if_pos e1], .inl ⟨e1, rfl, rfl⟩⟩
            · by_cases e2 : c.toNat < 244
              · exact ⟨128, 191, by rw [if_neg (by omega), if_neg (by omega), if_neg (by omega), if_neg (by omega), if_neg (by omega), if_neg (by omega), if_neg e1, if_pos e2], .inr (.inr ⟨e1, by omega, rfl, rfl⟩)⟩
              · exact ⟨128, 143, by rw [if_neg (by omega), if_neg (by omega), if_neg (by omega), if_neg (by omega), if_neg (by omega), if_neg (by omega), if_neg e1, if_neg e2, if_pos (by omega)], .inr (.inl ⟨by omega, rfl, rfl⟩)⟩
          rw [hcl, if_neg (by simp), if_neg (by simp), if_pos rfl] at hu
          simp only at hu
          rw [show ((4 : Int), (65536 : Int)) = (((4 : Nat) : Int), (65536 : Int)) from rfl]
          match rest, hrest, hdl with
          | [], hrest, hdl =>
            rw [K2bad 4 65536 (by simp at hdl; omega) (by decide), hu, contB_none (by simp)]
            rfl
          | [d], hrest, hdl =>
            rw [K2bad 4 65536 (by simp at hdl; omega) (by decide), hu, contB_none (i := 2) (by simp)]
            simp
          | [d, e], hrest, hdl =>
            rw [K2bad 4 65536 (by simp at hdl; omega) (by decide), hu, contB_none (i := 3) (by simp)]
            simp
          | d :: e :: f :: r, hrest, hdl =>
            have hd := d.toNat_lt
            have he := e.toNat_lt
            have hf := f.toNat_lt
            rw [K2 4 (c.toNat % 8) 65536 [d, e, f] r (by decide) (by decide) rfl rfl (by omega) (by rw [if_pos (by decide)])]
            rw [contB_some (b := d) rfl, contB_some (b := e) (i := 2) rfl, contB_some (b := f) (i := 3) rfl] at hu
            by_cases c1 : (128 ≤ d.toNat ∧ d.toNat ≤ 191) ∧ (128 ≤ e.toNat ∧ e.toNat ≤ 191) ∧ 128 ≤ f.toNat ∧ f.toNat ≤ 191
            · rw [decide_eq_true c1.2.1.1, decide_eq_true c1.2.1.2, decide_eq_true c1.2.2.1, decide_eq_true c1.2.2.2] at hu
              rw [if_pos (by simp [isCont, c1.1.1, c1.1.2, c1.2.1.1, c1.2.1.2, c1.2.2.1, c1.2.2.2])]
              by_cases c2 : lo ≤ d.toNat ∧ d.toNat ≤ hi'
              · rw [decide_eq_true c2.1, decide_eq_true c2.2] at hu
                rw [hu, K4_ok (by simp only [contV, List.foldl_cons, List.foldl_nil]; omega) (by omega)]
                rfl
              · rw [if_neg (by simp; omega)] at hu
                rw [hu, K4_bad (by simp only [contV, List.foldl_cons, List.foldl_nil]; omega)]
                rfl
            · rw [if_neg (by simp; omega)] at hu
              rw [hu, if_neg (by simp [isCont]; omega)]
              rfl
        · rw [if_neg (by simp; omega)]
          have hcl : (uCls c.toNat).1 = 0 := by
            unfold uCls
            by_cases e1 : c.toNat < 194
            · rw [if_pos e1]
            · rw [if_neg e1, if_neg (by omega), if_neg (by omega), if_neg (by omega), if_neg (by omega), if_neg (by omega), if_neg (by omega), if_neg (by omega), if_neg (by omega)]
          rw [hcl, if_neg (by decide), if_neg (by decide), if_neg (by decide)] at hu
          rw [hu]
          rfl
/-- **The reference's Text answers utfOk.** -/
theorem text_eq {s : List UInt8} (hs : s.length < 100000000000) : jetsamref13_Text s = some (utfOk s) := by
  unfold jetsamref13_Text
  refine iter_eq (fun a => ∃ i : Nat, i ≤ s.length ∧ a = (i : Int) ∧ utfOk (s.drop i) = utfOk s) (fun a => s.length - a.toNat) _ ?_ ⟨0, Nat.zero_le _, rfl, rfl⟩ (lt_ROUNDS (by omega))
  rintro a ⟨i, hi, rfl, hu⟩
  by_cases h : i < s.length
  · have hne : s.drop i ≠ [] := by
      intro e
      have := congrArg List.length e
      simp at this
      omega
    rw [text_step hs h, ← hu]
    by_cases h0 : uLen (s.drop i) = 0
    · rw [if_pos h0, utfOk_bad hne h0]
      exact .inr rfl
    · rw [if_neg h0]
      have hle : i + uLen (s.drop i) ≤ s.length := by
        have hd := List.length_drop (i := i) (l := s)
        generalize s.drop i = t at *
        match t, hne with
        | c :: r, _ =>
          have hk : ∀ k, contB (c :: r) k 128 191 = true → k < (c :: r).length := fun k hk => by
            by_cases hk2 : k < (c :: r).length
            · exact hk2
            · rw [contB_none (by omega)] at hk; cases hk
          have hk1 : ∀ k lo hi, contB (c :: r) k lo hi = true → k < (c :: r).length := fun k lo hi hk => by
            by_cases hk2 : k < (c :: r).length
            · exact hk2
            · rw [contB_none (by omega)] at hk; cases hk
          have : uLen (c :: r) ≤ (c :: r).length := by
            simp only [uLen]
            split
            · simp
            · split
              · split
                · rename_i hh; exact hk1 _ _ _ hh
                · exact Nat.zero_le _
              · split
                · split
                  · rename_i hh; exact hk1 _ _ _ hh.2
                  · exact Nat.zero_le _
                · split
                  · split
                    · rename_i hh; exact hk1 _ _ _ hh.2.2
                    · exact Nat.zero_le _
                  · exact Nat.zero_le _
          omega
      refine .inl ⟨_, rfl, ⟨_, hle, rfl, ?_⟩, ?_⟩
      · rw [← List.drop_drop, ← utfOk_more hne rfl h0, hu]
      · simp only [Int.toNat_natCast]
        omega
  · refine .inr ?_
    have hil : i = s.length := by omega
    subst hil
    unfold jetsamref13_Text_L1
    rw [if_neg (by simp), ← hu, List.drop_length]
    rfl
end Go.Vg

/- The document's answer: pictures written. -/
namespace Go.Vg

theorem big_eq {n k : Nat} (hk : k ≤ 8) (hn : n ≤ 9223372036854775807) : jetsamref12_Big (n : Int) (k : Int) = some (bigB k n) := by
  unfold jetsamref12_Big
  have w0 : W ((k : Int) - 1) = (k : Int) - 1 := W_id (by omega) (by omega)
  rw [w0]
  refine iter_eq (fun a => ∃ (j : Nat) (acc : List Int), j ≤ k ∧ acc.length + j = k ∧ a = ((j : Int) - 1, acc) ∧ acc ++ bigB j n = bigB k n) (fun a => (a.1 + 1).toNat) _ ?_ ⟨k, [], Nat.le_refl _, by simp, rfl, rfl⟩ (lt_ROUNDS (by simp only; omega))
  rintro a ⟨j, acc, hj, hl, rfl, hacc⟩
  unfold jetsamref12_Big_L1
  match j, hj, hl, hacc with
  | 0, hj, hl, hacc =>
    rw [if_neg (by simp)]
    refine .inr ?_
    simp only [bigB, List.append_nil] at hacc
    rw [hacc]
    rfl
  | j + 1, hj, hl, hacc =>
    have e1 : ((j + 1 : Nat) : Int) - 1 = (j : Int) := by omega
    rw [e1, if_pos (by simp)]
    have e8 : W (8 * (j : Int)) = ((8 * j : Nat) : Int) := by rw [W_id (by omega) (by omega)]; push_cast; rfl
    rw [e8, need_ok (by simp only [decide_eq_true_eq]; omega), shr_nat (by omega)]
    rw [show ((n / 2 ^ (8 * j) : Nat) : Int).tmod 256 = ((n / 2 ^ (8 * j) % 256 : Nat) : Int) from rfl, u8w, app_ok (by simp only [List.length_singleton]; omega), Option.bind_some]
    refine .inl ⟨_, rfl, ⟨j, acc ++ [((n / 2 ^ (8 * j) % 256 % 256 : Nat) : Int)], by omega, by simp; omega, ?_, ?_⟩, ?_⟩
    · rw [W_id (x := (j : Int) - 1) (by omega) (by omega)]
    · rw [List.append_assoc, List.singleton_append, ← hacc, bigB_cons, Nat.mod_mod, show (256 : Nat) ^ j = 2 ^ (8 * j) by rw [Nat.pow_mul]]
    · simp only
      rw [W_id (x := (j : Int) - 1) (by omega) (by omega)]
      omega
def nums (p : tags_Picture) : Nat → Int := arrn [p.Kind, p.Width, p.Height, p.Bits, p.Colors]
def rwriteP (p : tags_Picture) : List Int × Int := if pOk1 p = true then (if pOk2 p = true then (pBytes p, 0) else ([], 10)) else ([], 12)
theorem rwriteP_eq {p : tags_Picture} (h : (pBytes p).length ≤ 16777215) : rwriteP p = writeP p := by
  unfold rwriteP writeP
  rw [if_neg (show ¬ (pBytes p).length > 16777215 by omega)]
theorem rK2_eq {p : tags_Picture} (h2 : pOk2 p = true) (hn : p.Mime.length + p.Text.length + p.Data.length < 10000000000) : jetsamref13_Picture_K2 (nums p) p.Mime p.Text p.Data () = some (pBytes p, 0) := by
  simp only [pOk2, Bool.and_eq_true] at h2
  obtain ⟨g0, g1, g2, g3, g4⟩ := h2
  have g0 := okI_is g0
  have g1 := okI_is g1
  have g2 := okI_is g2
  have g3 := okI_is g3
  have g4 := okI_is g4
  obtain ⟨K, M, T, w, x, y, z, D⟩ := p
  simp only at *
  obtain ⟨k, rfl⟩ := Int.eq_ofNat_of_zero_le g0.1
  obtain ⟨w, rfl⟩ := Int.eq_ofNat_of_zero_le g1.1
  obtain ⟨x, rfl⟩ := Int.eq_ofNat_of_zero_le g2.1
  obtain ⟨y, rfl⟩ := Int.eq_ofNat_of_zero_le g3.1
  obtain ⟨z, rfl⟩ := Int.eq_ofNat_of_zero_le g4.1
  unfold jetsamref13_Picture_K2
  rw [show nums ⟨(k : Int), M, T, (w : Int), (x : Int), (y : Int), (z : Int), D⟩ 0 = (k : Int) from rfl, show (4 : Int) = ((4 : Nat) : Int) from rfl]
  rw [big_eq (by decide) (by omega), Option.bind_some, big_eq (by decide) (by omega), Option.bind_some, app_ok (by simp only [bigB_len]; omega), Option.bind_some, app_ok (by simp only [List.length_append, bigB_len, bytesI_len]; omega), Option.bind_some, big_eq (by decide) (by omega), Option.bind_some, app_ok (by simp only [List.length_append, bigB_len, bytesI_len]; omega), Option.bind_some, app_ok (by simp only [List.length_append, bigB_len, bytesI_len]; omega), Option.bind_some]
  have e0 : bigB 4 k ++ bigB 4 M.length ++ bytesI M ++ bigB 4 T.length ++ bytesI T = bigB 4 k ++ (lineI (bytesI M) ++ lineI (bytesI T)) := by simp [lineI, bytesI_len]
  have l0 : (bigB 4 k ++ (lineI (bytesI M) ++ lineI (bytesI T))).length = M.length + T.length + 12 := by simp only [List.length_append, bigB_len, lineI_len, bytesI_len]; omega
  rw [e0]
  generalize hB : bigB 4 k ++ (lineI (bytesI M) ++ lineI (bytesI T)) = B at *
  have step : ∀ (i v : Nat) (acc : List Int), i < 5 → v ≤ 4294967295 → acc.length ≤ 1000000000000 → idx [nums ⟨(k : Int), M, T, (w : Int), (x : Int), (y : Int), (z : Int), D⟩ 0, nums ⟨(k : Int), M, T, (w : Int), (x : Int), (y : Int), (z : Int), D⟩ 1, nums ⟨(k : Int), M, T, (w : Int), (x : Int), (y : Int), (z : Int), D⟩ 2, nums ⟨(k : Int), M, T, (w : Int), (x : Int), (y : Int), (z : Int), D⟩ 3, nums ⟨(k : Int), M, T, (w : Int), (x : Int), (y : Int), (z : Int), D⟩ 4] (i : Int) = some (v : Int) →
      jetsamref13_Picture_L1 (nums ⟨(k : Int), M, T, (w : Int), (x : Int), (y : Int), (z : Int), D⟩) D ((i : Int), acc) = some (.inl (((i + 1 : Nat) : Int), acc ++ bigB 4 v)) := by
    intro i v acc hi hv hacc hidx
    unfold jetsamref13_Picture_L1
    rw [if_pos (by simp only [decide_eq_true_eq]; omega), hidx, Option.bind_some, show (4 : Int) = ((4 : Nat) : Int) from rfl, big_eq (by decide) (by omega), Option.bind_some, app_ok (by simp only [bigB_len]; omega), Option.bind_some, W_succ (by omega)]
  have s1 := step 1 w B (by decide) (by omega) (by omega) rfl
  have s2 := step 2 x (B ++ bigB 4 w) (by decide) (by omega) (by rw [List.length_append, bigB_len]; omega) rfl
  have s3 := step 3 y (B ++ bigB 4 w ++ bigB 4 x) (by decide) (by omega) (by rw [List.length_append, List.length_append, bigB_len, bigB_len]; omega) rfl
  have s4 := step 4 z (B ++ bigB 4 w ++ bigB 4 x ++ bigB 4 y) (by decide) (by omega) (by rw [List.length_append, List.length_append, List.length_append, bigB_len, bigB_len, bigB_len]; omega) rfl
  have s5 : jetsamref13_Picture_L1 (nums ⟨(k : Int), M, T, (w : Int), (x : Int), (y : Int), (z : Int), D⟩) D (((5 : Nat) : Int), B ++ bigB 4 w ++ bigB 4 x ++ bigB 4 y ++ bigB 4 z) = some (.inr (pBytes ⟨(k : Int), M, T, (w : Int), (x : Int), (y : Int), (z : Int), D⟩, 0)) := by
    unfold jetsamref13_Picture_L1
    rw [if_neg (by simp)]
    unfold jetsamref13_Picture_K3
    rw [show (4 : Int) = ((4 : Nat) : Int) from rfl, big_eq (by decide) (by omega), Option.bind_some, app_ok (by simp only [List.length_append, bigB_len]; omega), Option.bind_some, app_ok (by simp only [List.length_append, bigB_len]; omega), Option.bind_some]
    unfold pBytes
    simp only [Int.toNat_natCast]
    rw [← hB]
    simp [lineI]
  refine iter_eq (fun a => a = (((1 : Nat) : Int), B) ∨ a = (((2 : Nat) : Int), B ++ bigB 4 w) ∨ a = (((3 : Nat) : Int), B ++ bigB 4 w ++ bigB 4 x) ∨ a = (((4 : Nat) : Int), B ++ bigB 4 w ++ bigB 4 x ++ bigB 4 y) ∨ a = (((5 : Nat) : Int), B ++ bigB 4 w ++ bigB 4 x ++ bigB 4 y ++ bigB 4 z)) (fun a => 5 - a.1.toNat) _ ?_ (.inl rfl) (lt_ROUNDS (by simp only; omega))
  rintro a (rfl | rfl | rfl | rfl | rfl)
  · exact .inl ⟨_, s1, .inr (.inl rfl), by simp only [Int.toNat_natCast]; omega⟩
  · exact .inl ⟨_, s2, .inr (.inr (.inl rfl)), by simp only [Int.toNat_natCast]; omega⟩
  · exact .inl ⟨_, s3, .inr (.inr (.inr (.inl rfl))), by simp only [Int.toNat_natCast]; omega⟩
  · exact .inl ⟨_, s4, .inr (.inr (.inr (.inr rfl))), by simp only [Int.toNat_natCast]; omega⟩
  · exact .inr s5
theorem rranges_eq {p : tags_Picture} (hn : p.Mime.length + p.Text.length + p.Data.length < 10000000000) : iter (jetsamref13_Picture_L2 (nums p) p.Mime p.Text p.Data) 0 = some (if pOk2 p = true then (pBytes p, 0) else ([], 10)) := by
  have step : ∀ (i : Nat) (x : Int) (ok : Bool), i < 5 → idx [nums p 0, nums p 1, nums p 2, nums p 3, nums p 4] (i : Int) = some x → ok = okI 0 (if i = 0 then 20 else 4294967295) x →
      jetsamref13_Picture_L2 (nums p) p.Mime p.Text p.Data (i : Int) = if ok = true then some (.inl ((i + 1 : Nat) : Int)) else some (.inr ([], 10)) := by
    intro i x ok hi hidx hok
    unfold jetsamref13_Picture_L2
    rw [if_pos (by simp only [decide_eq_true_eq]; omega)]
    simp only [hidx, Option.bind_some]
    by_cases h0 : 0 ≤ x
    · rw [if_neg (by simp only [decide_eq_true_eq]; omega)]
      by_cases h1 : x ≤ 4294967295
      · rw [if_neg (by simp only [decide_eq_true_eq]; omega)]
        by_cases hi0 : i = 0
        · subst hi0
          rw [if_pos rfl] at hok
          rw [if_pos (by rfl)]
          by_cases h2 : x ≤ 20
          · rw [if_neg (by simp only [decide_eq_true_eq]; omega), hok, okI, decide_eq_true h0, decide_eq_true h2]
            rfl
          · rw [if_pos (by simp only [decide_eq_true_eq]; omega), hok, okI, decide_eq_false h2, Bool.and_false, if_neg (by simp)]
            rfl
        · rw [if_neg hi0] at hok
          rw [if_neg (by simp; omega), hok, okI, decide_eq_true h0, decide_eq_true h1, if_pos (by rfl), W_succ (by omega)]
      · rw [if_pos (by simp only [decide_eq_true_eq]; omega), hok]
        have : okI 0 (if i = 0 then 20 else 4294967295) x = false := by
          unfold okI
          rw [decide_eq_false (p := x ≤ _) (by split <;> omega), Bool.and_false]
        rw [this, if_neg (by simp)]
        rfl
    · rw [if_pos (by simp only [decide_eq_true_eq]; omega), hok, okI, decide_eq_false h0, Bool.false_and, if_neg (by simp)]
      rfl
  have s0 := step 0 p.Kind _ (by decide) rfl rfl
  have s1 := step 1 p.Width _ (by decide) rfl rfl
  have s2 := step 2 p.Height _ (by decide) rfl rfl
  have s3 := step 3 p.Bits _ (by decide) rfl rfl
  have s4 := step 4 p.Colors _ (by decide) rfl rfl
  have e20 : (if (0 : Nat) = 0 then (20 : Int) else 4294967295) = 20 := rfl
  rw [e20] at s0
  rw [if_neg (by decide : ¬ (1 : Nat) = 0)] at s1
  rw [if_neg (by decide : ¬ (2 : Nat) = 0)] at s2
  rw [if_neg (by decide : ¬ (3 : Nat) = 0)] at s3
  rw [if_neg (by decide : ¬ (4 : Nat) = 0)] at s4
  have hp : pOk2 p = (okI 0 20 p.Kind && (okI 0 4294967295 p.Width && (okI 0 4294967295 p.Height && (okI 0 4294967295 p.Bits && okI 0 4294967295 p.Colors)))) := rfl
  have s5 : pOk2 p = true → jetsamref13_Picture_L2 (nums p) p.Mime p.Text p.Data ((5 : Nat) : Int) = some (.inr (pBytes p, 0)) := fun h => by
    unfold jetsamref13_Picture_L2
    rw [if_neg (by simp), rK2_eq h hn]
    rfl
  refine iter_eq (fun a => a = ((0 : Nat) : Int) ∨ (a = ((1 : Nat) : Int) ∧ okI 0 20 p.Kind = true) ∨ (a = ((2 : Nat) : Int) ∧ okI 0 20 p.Kind = true ∧ okI 0 4294967295 p.Width = true) ∨ (a = ((3 : Nat) : Int) ∧ okI 0 20 p.Kind = true ∧ okI 0 4294967295 p.Width = true ∧ okI 0 4294967295 p.Height = true)
    ∨ (a = ((4 : Nat) : Int) ∧ okI 0 20 p.Kind = true ∧ okI 0 4294967295 p.Width = true ∧ okI 0 4294967295 p.Height = true ∧ okI 0 4294967295 p.Bits = true) ∨ (a = ((5 : Nat) : Int) ∧ pOk2 p = true)) (fun a => 5 - a.toNat) _ ?_ (.inl rfl) (lt_ROUNDS (by omega))
  rintro a (rfl | ⟨rfl, h0⟩ | ⟨rfl, h0, h1⟩ | ⟨rfl, h0, h1, h2⟩ | ⟨rfl, h0, h1, h2, h3⟩ | ⟨rfl, h⟩)
  · rw [s0]
    cases h0 : okI 0 20 p.Kind with
    | true => exact .inl ⟨_, rfl, .inr (.inl ⟨rfl, rfl⟩), by decide⟩
    | false => rw [hp, h0]; exact .inr rfl
  · rw [s1]
    cases h1 : okI 0 4294967295 p.Width with
    | true => exact .inl ⟨_, rfl, .inr (.inr (.inl ⟨rfl, h0, rfl⟩)), by decide⟩
    | false => rw [hp, h0, h1]; exact .inr rfl
  · rw [s2]
    cases h2 : okI 0 4294967295 p.Height with
    | true => exact .inl ⟨_, rfl, .inr (.inr (.inr (.inl ⟨rfl, h0, h1, rfl⟩))), by decide⟩
    | false => rw [hp, h0, h1, h2]; exact .inr rfl
  · rw [s3]
    cases h3 : okI 0 4294967295 p.Bits with
    | true => exact .inl ⟨_, rfl, .inr (.inr (.inr (.inr (.inl ⟨rfl, h0, h1, h2, rfl⟩)))), by decide⟩
    | false => rw [hp, h0, h1, h2, h3]; exact .inr rfl
  · rw [s4]
    cases h4 : okI 0 4294967295 p.Colors with
    | true => exact .inl ⟨_, rfl, .inr (.inr (.inr (.inr (.inr ⟨rfl, by rw [hp, h0, h1, h2, h3, h4]; rfl⟩)))), by decide⟩
    | false => rw [hp, h0, h1, h2, h3, h4]; exact .inr rfl
  · rw [s5 h, h]
    exact .inr rfl
theorem rpicture_eq {p : tags_Picture} (hn : p.Mime.length + p.Text.length + p.Data.length < 10000000000) : jetsamref13_Picture (nums p) p.Mime p.Text p.Data = some (rwriteP p) := by
  unfold jetsamref13_Picture
  have hK1 : jetsamref13_Picture_K1 (nums p) p.Mime p.Text p.Data () = some (if utfOk p.Text = true then (if pOk2 p = true then (pBytes p, 0) else ([], 10)) else ([], 12)) := by
    unfold jetsamref13_Picture_K1
    rw [text_eq (by omega), Option.bind_some]
    cases utfOk p.Text with
    | false => rfl
    | true => rw [if_neg (by simp), rranges_eq hn]; rfl
  obtain ⟨r, h1, h2⟩ := find_iter (l := p.Mime) (A := List Int × Int) (fun x => !(decide (32 ≤ x.toNat) && decide (x.toNat ≤ 126))) (fun _ => ([], 12)) (if utfOk p.Text = true then (if pOk2 p = true then (pBytes p, 0) else ([], 10)) else ([], 12)) (jetsamref13_Picture_L3 (nums p) p.Mime p.Text p.Data) (by omega) (fun i hi => by
    unfold jetsamref13_Picture_L3
    rw [if_pos (by simpa using hi)]
    simp only [idx_ok (List.getElem?_eq_getElem hi), Option.bind_some]
    by_cases h1 : 32 ≤ (p.Mime[i]).toNat
    · rw [if_neg (by simp only [decide_eq_true_eq]; omega), decide_eq_true h1]
      by_cases h2 : (p.Mime[i]).toNat ≤ 126
      · rw [if_neg (by simp only [decide_eq_true_eq]; omega), decide_eq_true h2]
        rfl
      · rw [if_pos (by simp only [decide_eq_true_eq]; omega), decide_eq_false h2]
        rfl
    · rw [if_pos (by simp only [decide_eq_true_eq]; omega), decide_eq_false h1]
      rfl) (by
    unfold jetsamref13_Picture_L3
    rw [if_neg (by simp), hK1]
    rfl)
  rw [h1]
  have hlb : letterB 32 126 p.Mime = p.Mime.all (fun x => !(!(decide (32 ≤ x.toNat) && decide (x.toNat ≤ 126)))) := by
    unfold letterB bytesI
    rw [List.all_map]
    congr 1
    funext x
    simp only [Function.comp, Bool.not_not]
    congr 1
    · simp; omega
    · simp; omega
  unfold rwriteP pOk1
  rw [hlb]
  rcases h2 with ⟨e, rfl⟩ | ⟨e, _, _, rfl⟩
  · rw [e]
    rfl
  · rw [e]
    rfl
end Go.Vg

/- The document's answer: pictures read; TagsPictures. -/
namespace Go.Vg

def hv (t : List Int) : Int := if 4 ≤ t.length then (fourV t : Int) else -1
theorem rhigh_eq {b : List Int} {at' : Nat} (hb : isB b) (hn : b.length < 10000000000) (ha : at' < 10000000000) : jetsamref13_High b (at' : Int) 4 = some (hv (b.drop at')) := by
  unfold jetsamref13_High hv
  have hdl : (b.drop at').length = b.length - at' := List.length_drop ..
  rw [W_id (x := (at' : Int) + 4) (by omega) (by omega)]
  by_cases h : 4 ≤ (b.drop at').length
  · rw [if_neg (by simp only [decide_eq_true_eq]; omega), if_pos h]
    have hb' := isB_drop hb at'
    have hg : ∀ j : Nat, b[at' + j]? = (b.drop at')[j]? := fun j => by rw [List.getElem?_drop]
    refine iter_eq (fun a => ∃ i : Nat, i ≤ 4 ∧ a = ((bigN ((b.drop at').take i) : Int), (i : Int))) (fun a => 4 - a.2.toNat) _ ?_ ⟨0, by decide, rfl⟩ (lt_ROUNDS (by simp only; omega))
    rintro a ⟨i, hi, rfl⟩
    unfold jetsamref13_High_L1
    by_cases h4 : i < 4
    · have hil : i < (b.drop at').length := by omega
      have hx := hb' _ (List.getElem_mem hil)
      have hlt := bigN_lt (isB_take hb' i)
      rw [List.length_take, Nat.min_eq_left (by omega)] at hlt
      have hp : 256 ^ i ≤ 256 ^ 3 := Nat.pow_le_pow_right (by decide) (by omega)
      rw [if_pos (by simp only [decide_eq_true_eq]; omega), W_add (by omega), idx_ok (x := (b.drop at')[i]) (by rw [hg, List.getElem?_eq_getElem hil]), Option.bind_some]
      refine .inl ⟨_, rfl, ⟨i + 1, h4, ?_⟩, ?_⟩
      · rw [take_succ_get hil, bigN_snoc, W_succ (by omega)]
        congr 1
        generalize (b.drop at')[i] = v at *
        rw [W_id (x := 256 * (bigN ((b.drop at').take i) : Int)) (by omega) (by omega), W_id (by omega) (by omega)]
        omega
      · rw [W_succ (by omega)]
        simp only [Int.toNat_natCast]
        omega
    · have : i = 4 := by omega
      subst this
      rw [if_neg (by simp)]
      exact .inr rfl
  · rw [if_pos (by simp only [decide_eq_true_eq]; omega), if_neg h]
theorem hv_cases (t : List Int) : (4 ≤ t.length ∧ hv t = (fourV t : Int)) ∨ (t.length < 4 ∧ hv t = -1) := by
  unfold hv
  by_cases h : 4 ≤ t.length
  · exact .inl ⟨h, if_pos h⟩
  · exact .inr ⟨by omega, if_neg h⟩
/-- Does a text not stand here? -/
theorem no_text {b t : List Int} {at' : Nat} (ht : t = b.drop at') (hb : isB b) (hn : b.length < 1000000000) (ha : at' < 10000000000) (h : ¬ textOk t) :
    hv t < 0 ∨ 0 ≤ hv t ∧ hv t < 4294967296 ∧ (at' : Int) + 4 + hv t > b.length := by
  have hdl : t.length = b.length - at' := by rw [ht]; exact List.length_drop ..
  have hbt : isB t := by rw [ht]; exact isB_drop hb _
  rcases hv_cases t with ⟨h4, e⟩ | ⟨h4, e⟩
  · have := fourV_lt hbt h4
    rw [e]
    unfold textOk at h
    exact .inr ⟨by omega, by omega, by omega⟩
  · rw [e]
    exact .inl (by decide)
def asQ (r : tags_Picture × Int) : (Nat → Int) × List UInt8 × List UInt8 × List Int × Int := (nums r.1, r.1.Mime, r.1.Text, r.1.Data, r.2)
theorem asQ_no (n : Int) : asQ (noP, n) = (arrn [(0 : Int), (0 : Int), (0 : Int), (0 : Int), (0 : Int)], [], [], [], n) := rfl
theorem bad_cond {r : Int} {q L : Int} (h : r < 0 ∨ q > L) : (if decide (r < 0) = true then true else decide (q > L)) = true := by
  rcases h with h | h
  · rw [decide_eq_true h]; rfl
  · rw [decide_eq_true h]; split <;> rfl
theorem ok_cond {r : Int} {q L : Int} (h : 0 ≤ r) (h2 : q ≤ L) : ¬ (if decide (r < 0) = true then true else decide (q > L)) = true := by
  rw [decide_eq_false (by omega), decide_eq_false (by omega)]
  simp
/-- At the end. -/
theorem rpK1_eq {b : List Int} {M T : List UInt8} {a7 : Nat} {k v1 v2 v3 v4 : Int} (hb : isB b) (hn : b.length ≤ 10000000) (ha : a7 ≤ 100000000) (hM : M.length + T.length ≤ b.length) :
    jetsamref13_ReadPicture_K1 b M T ((a7 : Int), k, v1, v2, v3, v4) = some (if textOk (b.drop a7) then (if textR (b.drop a7) ≠ [] then asQ (noP, 12) else
      if (rwriteP ⟨k, M, T, v1, v2, v3, v4, []⟩).2 ≠ 0 then asQ (noP, (rwriteP ⟨k, M, T, v1, v2, v3, v4, []⟩).2) else (arrn [k, v1, v2, v3, v4], M, T, textI (b.drop a7), 0)) else asQ (noP, 11)) := by
  have hdl : (b.drop a7).length = b.length - a7 := List.length_drop ..
  unfold jetsamref13_ReadPicture_K1
  simp only
  rw [rhigh_eq hb (by omega) (by omega), Option.bind_some]
  by_cases h : textOk (b.drop a7)
  · obtain ⟨h1, h2⟩ := h
    have e : hv (b.drop a7) = (fourV (b.drop a7) : Int) := if_pos h1
    have hR : textR (b.drop a7) = b.drop (a7 + 4 + fourV (b.drop a7)) := by unfold textR; rw [List.drop_drop]; congr 1; omega
    have hI : textI (b.drop a7) = (b.drop (a7 + 4)).take (fourV (b.drop a7)) := by unfold textI; rw [List.drop_drop]
    rw [if_pos (show textOk (b.drop a7) from ⟨h1, h2⟩), e, hR, hI]
    generalize fourV (b.drop a7) = n at *
    have w1 : W ((a7 : Int) + 4) = ((a7 + 4 : Nat) : Int) := by rw [W_id (by omega) (by omega)]; rfl
    rw [w1, W_add (by omega), if_neg (ok_cond (by omega) (by omega))]
    have hl2 : (b.drop (a7 + 4 + n)).length = b.length - (a7 + 4 + n) := List.length_drop ..
    by_cases hr : b.drop (a7 + 4 + n) = []
    · rw [hr] at hl2
      simp only [List.length_nil] at hl2
      rw [if_neg (by simp only [decide_eq_true_eq]; omega), if_neg (fun h => h hr)]
      have := rpicture_eq (p := ⟨k, M, T, v1, v2, v3, v4, []⟩) (by simp only [List.length_nil]; omega)
      unfold nums at this
      rw [this, Option.bind_some, sub_ok (by omega) (Nat.le_refl _)]
      have hn' : b.length - (a7 + 4) = n := by omega
      rw [hn']
      generalize rwriteP ⟨k, M, T, v1, v2, v3, v4, []⟩ = rw'
      by_cases h0 : rw'.2 = 0
      · rw [if_neg (by simp [h0]), if_neg (by simp [h0])]
        rfl
      · rw [if_pos (by simp [h0]), if_pos h0]
        rfl
    · have := List.length_pos_iff.2 hr
      rw [if_pos (by simp only [decide_eq_true_eq]; omega), if_pos hr]
      rfl
  · have hno := no_text rfl hb (by omega) (by omega) h
    rw [if_neg h]
    rw [W_id (x := (a7 : Int) + 4) (by omega) (by omega), if_pos]
    · rfl
    · refine bad_cond ?_
      rcases hno with h | ⟨h0, h1, h2⟩
      · exact .inl h
      · rw [W_id (by omega) (by omega)]
        exact .inr h2
/-- The four numbers. -/
theorem rploop_eq {b : List Int} {M T : List UInt8} {a3 : Nat} {k : Int} {R : (Nat → Int) × List UInt8 × List UInt8 × List Int × Int} (hb : isB b) (hn : b.length ≤ 10000000) (ha : a3 ≤ 10000000)
    (h : jetsamref13_ReadPicture_K1 b M T (((a3 + 16 : Nat) : Int), k, hv (b.drop a3), hv (b.drop (a3 + 4)), hv (b.drop (a3 + 8)), hv (b.drop (a3 + 12))) = some R) :
    iter (jetsamref13_ReadPicture_L1 b M T) ((a3 : Int), 1, k, 0, 0, 0, 0) = some R := by
  have step : ∀ (i a : Nat) (n0 n1 n2 n3 n4 : Int), a ≤ 100000000 → i < 5 → 1 ≤ i → jetsamref13_ReadPicture_L1 b M T ((a : Int), (i : Int), n0, n1, n2, n3, n4) =
      some (.inl (((a + 4 : Nat) : Int), ((i + 1 : Nat) : Int), n0, (if i = 1 then hv (b.drop a) else n1), (if i = 2 then hv (b.drop a) else n2), (if i = 3 then hv (b.drop a) else n3), (if i = 4 then hv (b.drop a) else n4))) := by
    intro i a n0 n1 n2 n3 n4 ha hi hi1
    unfold jetsamref13_ReadPicture_L1
    simp only
    have w1 : W ((a : Int) + 4) = ((a + 4 : Nat) : Int) := by rw [W_id (by omega) (by omega)]; rfl
    rw [if_pos (by simp only [decide_eq_true_eq]; omega), rhigh_eq hb (by omega) (by omega), Option.bind_some, w1, W_succ (by omega)]
    have : i = 1 ∨ i = 2 ∨ i = 3 ∨ i = 4 := by omega
    rcases this with rfl | rfl | rfl | rfl <;> rfl
  have s1 := step 1 a3 k 0 0 0 0 (by omega) (by decide) (by decide)
  have s2 := step 2 (a3 + 4) k (hv (b.drop a3)) 0 0 0 (by omega) (by decide) (by decide)
  have s3 := step 3 (a3 + 8) k (hv (b.drop a3)) (hv (b.drop (a3 + 4))) 0 0 (by omega) (by decide) (by decide)
  have s4 := step 4 (a3 + 12) k (hv (b.drop a3)) (hv (b.drop (a3 + 4))) (hv (b.drop (a3 + 8))) 0 (by omega) (by decide) (by decide)
  have s5 : jetsamref13_ReadPicture_L1 b M T (((a3 + 16 : Nat) : Int), ((5 : Nat) : Int), k, hv (b.drop a3), hv (b.drop (a3 + 4)), hv (b.drop (a3 + 8)), hv (b.drop (a3 + 12))) = some (.inr R) := by
    unfold jetsamref13_ReadPicture_L1
    simp only
    rw [if_neg (by simp), h]
    rfl
  refine iter_eq (fun a => a = ((a3 : Int), ((1 : Nat) : Int), k, 0, 0, 0, 0) ∨ a = (((a3 + 4 : Nat) : Int), ((2 : Nat) : Int), k, hv (b.drop a3), 0, 0, 0) ∨ a = (((a3 + 8 : Nat) : Int), ((3 : Nat) : Int), k, hv (b.drop a3), hv (b.drop (a3 + 4)), 0, 0)
    ∨ a = (((a3 + 12 : Nat) : Int), ((4 : Nat) : Int), k, hv (b.drop a3), hv (b.drop (a3 + 4)), hv (b.drop (a3 + 8)), 0) ∨ a = (((a3 + 16 : Nat) : Int), ((5 : Nat) : Int), k, hv (b.drop a3), hv (b.drop (a3 + 4)), hv (b.drop (a3 + 8)), hv (b.drop (a3 + 12)))) (fun a => 5 - a.2.1.toNat) _ ?_ (.inl rfl) (lt_ROUNDS (by simp only; omega))
  rintro a (rfl | rfl | rfl | rfl | rfl)
  · exact .inl ⟨_, s1, .inr (.inl rfl), by simp only [Int.toNat_natCast]; omega⟩
  · exact .inl ⟨_, s2, .inr (.inr (.inl rfl)), by simp only [Int.toNat_natCast]; omega⟩
  · exact .inl ⟨_, s3, .inr (.inr (.inr (.inl rfl))), by simp only [Int.toNat_natCast]; omega⟩
  · exact .inl ⟨_, s4, .inr (.inr (.inr (.inr rfl))), by simp only [Int.toNat_natCast]; omega⟩
  · exact .inr s5
end Go.Vg

/- TagsPictures. -/
namespace Go.Vg

theorem rwriteP_code (p : tags_Picture) (d : List Int) : (rwriteP ⟨p.Kind, p.Mime, p.Text, p.Width, p.Height, p.Bits, p.Colors, d⟩).2 = (rwriteP p).2 := by
  unfold rwriteP pOk1 pOk2
  simp only
  split
  · split
    · rfl
    · rfl
  · rfl
theorem hv_of {t : List Int} (h : 4 ≤ t.length) : hv t = (fourV t : Int) := if_pos h
/-- **The reference's ReadPicture answers what the program's does.** -/
theorem rreadP_eq {b : List Int} (hb : isB b) (hn : b.length ≤ 1000000) : jetsamref13_ReadPicture b = some (asQ (readP b)) := by
  unfold jetsamref13_ReadPicture
  have hb1 := isB_drop hb 4
  have hH0 : jetsamref13_High b 0 4 = some (hv b) := by have := rhigh_eq (at' := 0) hb (by omega) (by omega); rwa [List.drop_zero] at this
  have hH4 : jetsamref13_High b 4 4 = some (hv (b.drop 4)) := rhigh_eq (at' := 4) hb (by omega) (by omega)
  rw [hH0, Option.bind_some, hH4, Option.bind_some]
  have hl1 : (b.drop 4).length = b.length - 4 := List.length_drop ..
  by_cases h1 : textOk (b.drop 4)
  case neg =>
    have e : readP b = (noP, 11) := by
      unfold readP readQ
      simp only
      by_cases h0 : 4 ≤ b.length
      · rw [if_pos h0, if_neg h1]
      · rw [if_neg h0]
    have hno := no_text (at' := 4) rfl hb (by omega) (by omega) h1
    rw [e, if_pos]
    · rfl
    · refine bad_cond ?_
      rcases hno with h | ⟨h0, h2, h3⟩
      · exact .inl h
      · rw [W_id (by omega) (by omega)]
        exact .inr (by omega)
  have h0 : 4 ≤ b.length := by have := h1.1; omega
  have hm := hv_of h1.1
  have hm2 := h1.2
  have hR1 : textR (b.drop 4) = b.drop (8 + fourV (b.drop 4)) := by unfold textR; rw [List.drop_drop]; congr 1; omega
  have hI1 : textI (b.drop 4) = (b.drop 8).take (fourV (b.drop 4)) := by unfold textI; rw [List.drop_drop]
  have hb2 : isB (textR (b.drop 4)) := isB_drop hb1 _
  rw [hm]
  generalize hmg : fourV (b.drop 4) = m at *
  have w8 : W (8 + (m : Int)) = ((8 + m : Nat) : Int) := by rw [W_id (by omega) (by omega)]; push_cast; rfl
  rw [w8, if_neg (ok_cond (by omega) (by omega)), rhigh_eq hb (by omega) (by omega), Option.bind_some]
  have hl2 : (b.drop (8 + m)).length = b.length - (8 + m) := List.length_drop ..
  by_cases h2 : textOk (b.drop (8 + m))
  case neg =>
    have e : readP b = (noP, 11) := by
      unfold readP readQ
      simp only
      rw [if_pos h0, if_pos h1, hR1, if_neg h2]
    have hno := no_text (at' := 8 + m) rfl hb (by omega) (by omega) h2
    rw [e, W_id (x := ((8 + m : Nat) : Int) + 4) (by omega) (by omega), if_pos]
    · rfl
    · refine bad_cond ?_
      rcases hno with h | ⟨h0', h2', h3⟩
      · exact .inl h
      · rw [W_id (by omega) (by omega)]
        exact .inr (by omega)
  have ht := hv_of h2.1
  have ht2 := h2.2
  have hR2 : textR (b.drop (8 + m)) = b.drop (8 + m + 4 + fourV (b.drop (8 + m))) := by unfold textR; rw [List.drop_drop]; congr 1; omega
  have hI2 : textI (b.drop (8 + m)) = (b.drop (8 + m + 4)).take (fourV (b.drop (8 + m))) := by unfold textI; rw [List.drop_drop]
  have hb3 : isB (textR (b.drop (8 + m))) := isB_drop (isB_drop hb _) _
  rw [ht]
  generalize htg : fourV (b.drop (8 + m)) = t at *
  have w4 : W (((8 + m : Nat) : Int) + 4) = ((8 + m + 4 : Nat) : Int) := by rw [W_id (by omega) (by omega)]; rfl
  have hs1 : sub b 8 ((8 + m : Nat) : Int) = some (textI (b.drop 4)) := by
    rw [hI1, show (8 : Int) = ((8 : Nat) : Int) from rfl, sub_ok (by omega) (by omega)]
    congr 2
    omega
  have hs2 : sub b ((8 + m + 4 : Nat) : Int) ((8 + m + 4 + t : Nat) : Int) = some (textI (b.drop (8 + m))) := by
    rw [hI2, sub_ok (by omega) (by omega)]
    congr 2
    omega
  rw [w4, W_add (by omega), if_neg (ok_cond (by omega) (by omega)), hs1, Option.bind_some, hs2, Option.bind_some]
  have hlI1 : (bstr (textI (b.drop 4))).length = m := by rw [bstr_len, hI1, List.length_take, List.length_drop]; omega
  have hlI2 : (bstr (textI (b.drop (8 + m)))).length = t := by rw [bstr_len, hI2, List.length_take, List.length_drop]; omega
  obtain ⟨a3, ha3⟩ : ∃ a3, a3 = 8 + m + 4 + t := ⟨_, rfl⟩
  rw [← ha3]
  rw [← ha3] at hR2
  refine rploop_eq hb (by omega) (by omega) ?_
  rw [rpK1_eq hb (by omega) (by omega) (by rw [hlI1, hlI2]; omega)]
  congr 1
  have hl3 : (b.drop a3).length = b.length - a3 := List.length_drop ..
  have hl4 : (b.drop (a3 + 4)).length = b.length - (a3 + 4) := List.length_drop ..
  have hl5 : (b.drop (a3 + 8)).length = b.length - (a3 + 8) := List.length_drop ..
  have hl6 : (b.drop (a3 + 12)).length = b.length - (a3 + 12) := List.length_drop ..
  have hl7 : (b.drop (a3 + 16)).length = b.length - (a3 + 16) := List.length_drop ..
  have d4 : (b.drop a3).drop 4 = b.drop (a3 + 4) := by rw [List.drop_drop]
  have d5 : (b.drop (a3 + 4)).drop 4 = b.drop (a3 + 8) := by rw [List.drop_drop]
  have d6 : (b.drop (a3 + 8)).drop 4 = b.drop (a3 + 12) := by rw [List.drop_drop]
  have d7 : (b.drop (a3 + 12)).drop 4 = b.drop (a3 + 16) := by rw [List.drop_drop]
  by_cases h8 : textOk (b.drop (a3 + 16))
  · have h81 := h8.1
    have eQ : readQ b = some (⟨fourV b, bstr (textI (b.drop 4)), bstr (textI (b.drop (8 + m))), fourV (b.drop a3), fourV (b.drop (a3 + 4)), fourV (b.drop (a3 + 8)), fourV (b.drop (a3 + 12)), textI (b.drop (a3 + 16))⟩, textR (b.drop (a3 + 16))) := by
      unfold readQ
      simp only
      rw [if_pos h0, if_pos h1, hR1, if_pos h2, hR2, if_pos (by omega), d4, if_pos (by omega), d5, if_pos (by omega), d6, if_pos (by omega), d7, if_pos h8]
    have hv0 := hv_of h0
    have hv3 := hv_of (t := b.drop a3) (by omega)
    have hv4 := hv_of (t := b.drop (a3 + 4)) (by omega)
    have hv5 := hv_of (t := b.drop (a3 + 8)) (by omega)
    have hv6 := hv_of (t := b.drop (a3 + 12)) (by omega)
    have hlen := congrArg List.length (readQ_is hb eQ)
    rw [List.length_append] at hlen
    unfold readP
    rw [eQ, if_pos h8, hv0, hv3, hv4, hv5, hv6]
    simp only
    generalize textR (b.drop (a3 + 16)) = rest at *
    generalize textI (b.drop (a3 + 16)) = dat at *
    generalize bstr (textI (b.drop 4)) = M at *
    generalize bstr (textI (b.drop (8 + m))) = T at *
    unfold endP
    by_cases hr : rest = []
    · rw [if_neg (show ¬ rest ≠ [] from fun h => h hr), if_neg (show ¬ rest ≠ [] from fun h => h hr)]
      rw [← rwriteP_eq (p := ⟨(fourV b : Int), M, T, (fourV (b.drop a3) : Int), (fourV (b.drop (a3 + 4)) : Int), (fourV (b.drop (a3 + 8)) : Int), (fourV (b.drop (a3 + 12)) : Int), dat⟩) (by omega)]
      have hc := rwriteP_code ⟨(fourV b : Int), M, T, (fourV (b.drop a3) : Int), (fourV (b.drop (a3 + 4)) : Int), (fourV (b.drop (a3 + 8)) : Int), (fourV (b.drop (a3 + 12)) : Int), dat⟩ []
      simp only at hc
      rw [hc]
      generalize (rwriteP ⟨(fourV b : Int), M, T, (fourV (b.drop a3) : Int), (fourV (b.drop (a3 + 4)) : Int), (fourV (b.drop (a3 + 8)) : Int), (fourV (b.drop (a3 + 12)) : Int), dat⟩).2 = code
      by_cases h0 : code = 0
      · rw [if_neg (show ¬ code ≠ 0 from fun h => h h0), if_neg (show ¬ code ≠ 0 from fun h => h h0)]
        rfl
      · rw [if_pos h0, if_pos h0]
    · rw [if_pos (show rest ≠ [] from hr), if_pos (show rest ≠ [] from hr)]
  · rw [if_neg h8]
    have eQ : readQ b = none := by
      unfold readQ
      simp only
      rw [if_pos h0, if_pos h1, hR1, if_pos h2, hR2]
      split
      · rw [d4]
        split
        · rw [d5]
          split
          · rw [d6]
            split
            · rw [d7, if_neg h8]
            · rfl
          · rfl
        · rfl
      · rfl
    unfold readP
    rw [eQ]

/-- **TagsPictures.** -/
theorem tagsPictures {p : tags_Picture} {b : List Int} (hb : isB b) : jetsamlaw13_TagsPictures p b = some true := by
  unfold jetsamlaw13_TagsPictures
  rw [awake_holds]
  by_cases hg : p.Mime.length ≤ 200 ∧ p.Text.length ≤ 200 ∧ p.Data.length ≤ 200 ∧ b.length ≤ 500
  · obtain ⟨g2, g3, g4, g5⟩ := hg
    rw [if_neg (by
      rw [decide_eq_false (by omega : ¬ (p.Mime.length : Int) > 200), decide_eq_false (by omega : ¬ (p.Text.length : Int) > 200), decide_eq_false (by omega : ¬ (p.Data.length : Int) > 200), decide_eq_false (by omega : ¬ (b.length : Int) > 500)]
      simp)]
    have hpl := pBytes_len p
    have e2 := rpicture_eq (p := p) (by omega)
    unfold nums at e2
    have hwl : (writeP p).1.length < 1000000000000000 := by
      unfold writeP
      split
      · split
        · split
          · simp
          · simp only; omega
        · simp
      · simp
    rw [writeP_eq (by omega), Option.bind_some, e2, Option.bind_some, rwriteP_eq (by omega), bytes_eq hwl, Option.bind_some, if_neg (by simp), readP_eq hb (by omega), Option.bind_some, rreadP_eq hb (by omega), Option.bind_some]
    unfold asQ
    rw [if_pos (by simp)]
    have hD : (readP b).1.Data.length < 10000000000 := by
      by_cases h0 : (readP b).2 = 0
      · have := congrArg List.length (writeP_readP hb h0).2
        rw [pBytes_len] at this
        omega
      · have : (readP b).1 = noP := by
          revert h0
          unfold readP endP
          split
          · intro _; rfl
          · split
            · intro _; rfl
            · split
              · intro _; rfl
              · intro h; exact absurd rfl h
        rw [this]
        decide
    have hpe : jetsamlaw13_picture (readP b).1 ⟨nums (readP b).1 0, (readP b).1.Mime, (readP b).1.Text, nums (readP b).1 1, nums (readP b).1 2, nums (readP b).1 3, nums (readP b).1 4, (readP b).1.Data⟩ = some true := picture_eq hD
    simp only
    rw [hpe, Option.bind_some, if_pos rfl]
    rfl
  · rw [if_pos]
    · rfl
    · by_cases g2 : p.Mime.length ≤ 200
      · by_cases g3 : p.Text.length ≤ 200
        · by_cases g4 : p.Data.length ≤ 200
          · have g5 : ¬ b.length ≤ 500 := fun g5 => hg ⟨g2, g3, g4, g5⟩
            rw [decide_eq_true (by omega : (b.length : Int) > 500)]
            simp
          · rw [decide_eq_true (by omega : (p.Data.length : Int) > 200)]
            simp
        · rw [decide_eq_true (by omega : (p.Text.length : Int) > 200)]
          simp
      · rw [decide_eq_true (by omega : (p.Mime.length : Int) > 200)]
        simp
end Go.Vg
