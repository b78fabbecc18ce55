/- Plain laws: texts, comments. -/
import Derived.Test.YtpdklmagncfhaaaDoorF1
import Derived.Test.YtpdklmagncfhaaaDoorA8
set_option maxRecDepth 4000
set_option linter.all false
set_option linter.unusedVariables false
set_option linter.unusedSimpArgs false
/- Numbers as bytes, low and high. -/
namespace Go.Vg

theorem u8w (x : Nat) : IntKind.u8.wrap (x : Int) = ((x % 256 : Nat) : Int) := by
  have : x % 256 < 256 := Nat.mod_lt _ (by decide)
  simp only [IntKind.wrap, IntKind.bits, IntKind.signed]
  simp
theorem i64_id {x : Int} (h1 : -9223372036854775808 ≤ x) (h2 : x ≤ 9223372036854775807) : IntKind.i64.wrap x = x := wrap_id (by rw [has_iff]; simp only [lo, hi]; omega)
theorem or_nat {x y : Nat} (hx : x < 9223372036854775808) (hy : y < 9223372036854775808) : arD .or .i64 (x : Int) (y : Int) = ((x ||| y : Nat) : Int) := by
  have h1 : (BitVec.ofInt IntKind.i64.bits (x : Int) ||| BitVec.ofInt IntKind.i64.bits (y : Int)).toNat = x ||| y := by
    rw [BitVec.ofInt_natCast, BitVec.ofInt_natCast, BitVec.toNat_or, BitVec.toNat_ofNat, BitVec.toNat_ofNat]
    simp only [IntKind.bits]
    rw [Nat.mod_eq_of_lt (by omega), Nat.mod_eq_of_lt (by omega)]
  simp only [arD, h1]
  have : x ||| y < 2 ^ 63 := Nat.or_lt_two_pow (by omega) (by omega)
  exact i64_id (by omega) (by omega)
theorem shl_nat {x s : Nat} (h : x * 2 ^ s < 9223372036854775808) (hs : s ≤ 64) : shD .shl .i64 (x : Int) (s : Int) = ((x * 2 ^ s : Nat) : Int) := by
  simp only [shD, IntKind.bits, Int.toNat_natCast]
  rw [Nat.min_eq_left hs]
  have : (x : Int) * 2 ^ s = ((x * 2 ^ s : Nat) : Int) := by push_cast; rfl
  rw [this]
  exact i64_id (by omega) (by omega)
theorem shr_nat {x s : Nat} (hs : s ≤ 64) : shD .shr .i64 (x : Int) (s : Int) = ((x / 2 ^ s : Nat) : Int) := by
  simp only [shD, IntKind.bits, Int.toNat_natCast]
  rw [Nat.min_eq_left hs]
  have : (2 : Int) ^ s = ((2 ^ s : Nat) : Int) := by push_cast; rfl
  rw [this, Int.fdiv_eq_ediv_of_nonneg _ (Int.natCast_nonneg _)]
  exact (Int.natCast_ediv _ _).symm
theorem or_low {x p i : Nat} (hx : x < 2 ^ i) : x ||| (p * 2 ^ i) = p * 2 ^ i + x := by
  rw [Nat.or_comm, ← Nat.shiftLeft_eq, ← Nat.shiftLeft_add_eq_or_of_lt hx]

/-- All are bytes. -/
def isB (l : List Int) : Prop := ∀ x, x ∈ l → 0 ≤ x ∧ x < 256
theorem isB_take {l : List Int} (h : isB l) (n : Nat) : isB (l.take n) := fun x hx => h x (List.mem_of_mem_take hx)
theorem isB_drop {l : List Int} (h : isB l) (n : Nat) : isB (l.drop n) := fun x hx => h x (List.mem_of_mem_drop hx)
theorem isB_bytesI (l : List UInt8) : isB (bytesI l) := fun x hx => by
  simp only [bytesI, List.mem_map] at hx
  obtain ⟨b, _, rfl⟩ := hx
  have := b.toNat_lt
  omega
theorem bytesI_len (l : List UInt8) : (bytesI l).length = l.length := by simp [bytesI]
theorem bstr_len (l : List Int) : (bstr l).length = l.length := by simp [bstr]
theorem bstr_bytesI (l : List UInt8) : bstr (bytesI l) = l := by
  simp only [bstr, bytesI, List.map_map]
  conv => rhs; rw [← List.map_id l]
  congr 1
  funext b
  simp
theorem bytesI_bstr {l : List Int} (h : isB l) : bytesI (bstr l) = l := by
  simp only [bstr, bytesI, List.map_map]
  conv => rhs; rw [← List.map_id l]
  apply List.map_congr_left
  intro x hx
  have := h x hx
  simp only [Function.comp, UInt8.toNat_ofNat', id]
  omega

/-- Four bytes of a number, the lowest one first. -/
def lowB (n : Nat) : List Int := [((n % 256 : Nat) : Int), ((n / 256 % 256 : Nat) : Int), ((n / 65536 % 256 : Nat) : Int), ((n / 16777216 % 256 : Nat) : Int)]
def lowN : List Int → Nat
  | [] => 0
  | a :: l => a.toNat + 256 * lowN l
theorem lowB_len (n : Nat) : (lowB n).length = 4 := rfl
theorem isB_lowB (n : Nat) : isB (lowB n) := fun x hx => by
  simp only [lowB, List.mem_cons, List.not_mem_nil, or_false] at hx
  rcases hx with rfl | rfl | rfl | rfl <;> omega
theorem lowN_lowB {n : Nat} (h : n < 4294967296) : lowN (lowB n) = n := by
  simp only [lowB, lowN, Int.toNat_natCast]
  omega
theorem lowN_lt : ∀ {l : List Int}, isB l → lowN l < 256 ^ l.length
  | [], _ => by simp [lowN]
  | a :: l, h => by
    have h1 := lowN_lt (l := l) fun x hx => h x (List.mem_cons_of_mem _ hx)
    have h2 := h a (List.mem_cons_self ..)
    rw [lowN, List.length_cons, Nat.pow_succ]
    omega
theorem lowB_lowN {l : List Int} (h : isB l) (hl : l.length = 4) : lowB (lowN l) = l := by
  match l, hl with
  | [a, b, c, d], _ =>
    have h1 := h a (by simp)
    have h2 := h b (by simp)
    have h3 := h c (by simp)
    have h4 := h d (by simp)
    simp only [lowB, lowN, List.cons.injEq, and_true]
    omega
theorem tags_low_eq {n : Nat} : tags_low (n : Int) = some (lowB n) := by
  unfold tags_low lowB
  rw [show (8 : Int) = ((8 : Nat) : Int) from rfl, show (16 : Int) = ((16 : Nat) : Int) from rfl, show (24 : Int) = ((24 : Nat) : Int) from rfl, shr_nat (by decide), shr_nat (by decide), shr_nat (by decide), u8w, u8w, u8w, u8w]

theorem take_ok {n : Nat} {r : tags_reader} (h : n ≤ r.m_b.length) : tags_reader_take (n : Int) r = some (r.m_b.take n, r.m_b.drop n, r.m_end) := by
  unfold tags_reader_take
  have e1 : decide ((n : Int) < 0) = false := by simp
  have e2 : decide ((n : Int) > (r.m_b.length : Int)) = false := by simp; omega
  rw [e1, e2]
  simp only [Bool.false_eq_true, if_false]
  rw [show (0 : Int) = ((0 : Nat) : Int) from rfl, sub_ok (Nat.zero_le _) h, sub_ok h (Nat.le_refl _)]
  have e3 : List.take (r.m_b.length - n) (List.drop n r.m_b) = List.drop n r.m_b := List.take_of_length_le (by simp)
  simp [e3]
theorem take_end {n : Nat} {r : tags_reader} (h : r.m_b.length < n) : tags_reader_take (n : Int) r = some ([], [], true) := by
  unfold tags_reader_take
  have e1 : decide ((n : Int) < 0) = false := by simp
  have e2 : decide ((n : Int) > (r.m_b.length : Int)) = true := by simp; omega
  rw [e1, e2]
  simp

theorem lowN_snoc (t : List Int) (x : Int) : lowN (t ++ [x]) = lowN t + x.toNat * 256 ^ t.length := by
  induction t with
  | nil => simp [lowN]
  | cons a t ih =>
    simp only [List.cons_append, lowN, ih, List.length_cons, Nat.pow_succ]
    rw [Nat.mul_add, Nat.add_assoc]
    congr 2
    rw [Nat.mul_comm (256 ^ t.length) 256, ← Nat.mul_assoc, ← Nat.mul_assoc, Nat.mul_comm 256]
theorem low_step {l : List Int} {r : List Int × Bool} {i : Nat} (hl : l.length ≤ 4) (hb : isB l) (hi : i < l.length) :
    tags_reader_low_L1 (l, r) ((lowN (l.take i) : Int), (i : Int)) = some (.inl ((lowN (l.take (i + 1)) : Int), ((i + 1 : Nat) : Int))) := by
  have hg : l[i]? = some l[i] := List.getElem?_eq_getElem hi
  have hx := hb l[i] (List.getElem_mem hi)
  obtain ⟨p, hp⟩ := Int.eq_ofNat_of_zero_le hx.1
  have hpl : p < 256 := by omega
  unfold tags_reader_low_L1
  rw [if_pos (by simpa using hi), idx_ok hg]
  have e8 : W (8 * (i : Int)) = ((8 * i : Nat) : Int) := by rw [W_id (by omega) (by omega)]; push_cast; rfl
  have e9 : W ((i : Int) + 1) = ((i + 1 : Nat) : Int) := by rw [W_id (by omega) (by omega)]; push_cast; rfl
  simp only [Option.bind_some]
  rw [e8, e9, need_ok (by simp only [decide_eq_true_eq]; omega), hp]
  have hlt := lowN_lt (isB_take hb i)
  rw [List.length_take, Nat.min_eq_left (by omega)] at hlt
  have hpow : 256 ^ i = 2 ^ (8 * i) := by rw [Nat.pow_mul]
  have h24 : 2 ^ (8 * i) ≤ 2 ^ 24 := Nat.pow_le_pow_right (by decide) (by omega)
  have hm : p * 2 ^ (8 * i) < 2 ^ 32 := Nat.lt_of_le_of_lt (Nat.mul_le_mul (Nat.le_of_lt_succ hpl) h24) (by decide)
  have hlast : lowN (l.take (i + 1)) = p * 2 ^ (8 * i) + lowN (l.take i) := by
    rw [List.take_add_one, hg, Option.toList_some, lowN_snoc, hp, List.length_take, Nat.min_eq_left (by omega), hpow]
    simp only [Int.toNat_natCast]
    omega
  rw [shl_nat (by omega) (by omega), or_nat (by omega) (by omega), or_low (by omega), hlast]
theorem low_iter {l : List Int} {r : List Int × Bool} (hl : l.length ≤ 4) (hb : isB l) : iter (tags_reader_low_L1 (l, r)) (0, 0) = some ((lowN l : Int), r) := by
  refine iter_eq (fun a => ∃ i, i ≤ l.length ∧ a = ((lowN (l.take i) : Int), (i : Int))) (fun a => l.length - a.2.toNat) _ ?_ ⟨0, Nat.zero_le _, rfl⟩ (lt_ROUNDS (by simp only; omega))
  rintro a ⟨i, hi, rfl⟩
  by_cases h : i < l.length
  · refine .inl ⟨_, low_step hl hb h, ⟨i + 1, h, rfl⟩, ?_⟩
    simp only [Int.toNat_natCast]
    omega
  · refine .inr ?_
    have : i = l.length := by omega
    subst this
    unfold tags_reader_low_L1
    rw [if_neg (by simp)]
    simp [tags_reader_low_K1]
/-- The next four bytes. -/
theorem low_ok {r : tags_reader} (h : 4 ≤ r.m_b.length) (hb : isB r.m_b) : tags_reader_low r = some ((lowN (r.m_b.take 4) : Int), r.m_b.drop 4, r.m_end) := by
  unfold tags_reader_low
  rw [show (4 : Int) = ((4 : Nat) : Int) from rfl, take_ok h]
  simp only [Option.bind_some]
  exact low_iter (by simp; omega) (isB_take hb 4)
theorem low_end {r : tags_reader} (h : r.m_b.length < 4) : tags_reader_low r = some (0, [], true) := by
  unfold tags_reader_low
  rw [show (4 : Int) = ((4 : Nat) : Int) from rfl, take_end h]
  simp only [Option.bind_some]
  exact low_iter (l := []) (by simp) (fun x hx => by cases hx)

/-- What a number's bytes are followed by. -/
theorem text_ok {r : tags_reader} {n : Nat} (h : 4 ≤ r.m_b.length) (hb : isB r.m_b) (hn : lowN (r.m_b.take 4) = n) (h2 : n + 4 ≤ r.m_b.length) (he : r.m_end = false) :
    tags_reader_text r = some (bstr ((r.m_b.drop 4).take n), r.m_b.drop (4 + n), false) := by
  unfold tags_reader_text
  rw [low_ok h hb]
  simp only [Option.bind_some, he, Bool.false_eq_true, if_false, hn]
  rw [take_ok (by simp only [List.length_drop]; omega)]
  simp [List.drop_drop]
theorem text_end {r : tags_reader} (hb : isB r.m_b) (he : r.m_end = true → r.m_b = []) (h : r.m_b.length < 4 ∨ r.m_b.length < lowN (r.m_b.take 4) + 4) : tags_reader_text r = some ([], [], true) := by
  unfold tags_reader_text
  by_cases h4 : 4 ≤ r.m_b.length
  · rw [low_ok h4 hb]
    simp only [Option.bind_some]
    cases h5 : r.m_end with
    | true =>
      rw [he h5] at h4
      simp at h4
    | false =>
      simp only [Bool.false_eq_true, if_false]
      rw [take_end (by simp only [List.length_drop]; omega)]
      simp [bstr]
  · rw [low_end (by omega)]
    simp
end Go.Vg

/- Numbers, the highest byte first. -/
namespace Go.Vg

theorem snoc_ind {α : Type} {P : List α → Prop} (h0 : P []) (h1 : ∀ l x, P l → P (l ++ [x])) (l : List α) : P l := by
  have : ∀ m : List α, P m.reverse := fun m => by
    induction m with
    | nil => exact h0
    | cons x m ih => rw [List.reverse_cons]; exact h1 _ _ ih
  simpa using this l.reverse
end Go.Vg

/- Lists: joined, searched, compared. -/
namespace Go.Vg

theorem W_nat {n : Nat} (h : n ≤ 9223372036854775807) : W (n : Int) = n := W_id (by omega) (by omega)
theorem W_succ {n : Nat} (h : n < 9223372036854775807) : W ((n : Int) + 1) = ((n + 1 : Nat) : Int) := by rw [W_id (by omega) (by omega)]; push_cast; rfl
theorem W_add {n m : Nat} (h : n + m ≤ 9223372036854775807) : W ((n : Int) + (m : Int)) = ((n + m : Nat) : Int) := by rw [W_id (by omega) (by omega)]; push_cast; rfl

theorem flat_take_le {ls : List (List Int)} (i : Nat) : (ls.take i).flatten.length ≤ ls.flatten.length := by
  rw [show ls.flatten = (ls.take i).flatten ++ (ls.drop i).flatten by rw [← List.flatten_append, List.take_append_drop], List.length_append]
  omega
theorem take_succ_get {α : Type} {l : List α} {i : Nat} (h : i < l.length) : l.take (i + 1) = l.take i ++ [l[i]] := by
  rw [List.take_add_one, List.getElem?_eq_getElem h, Option.toList_some]
theorem concat_eq {ls : List (List Int)} (hn : ls.length < 1000000000000) (h : ls.flatten.length ≤ 140737488355328) : slices_Concat_sbyte_byte ls = some ls.flatten := by
  unfold slices_Concat_sbyte_byte
  refine iter_eq (fun a => ∃ i, i ≤ ls.length ∧ a = (((ls.take i).flatten.length : Int), (i : Int))) (fun a => ls.length - a.2.toNat) _ ?_ ⟨0, Nat.zero_le _, rfl⟩ (lt_ROUNDS (by simp only; omega))
  rintro a ⟨i, hi, rfl⟩
  have hfl := flat_take_le (ls := ls) i
  unfold slices_Concat_sbyte_byte_L2
  by_cases h1 : i < ls.length
  · refine .inl ⟨_, ?_, ⟨i + 1, h1, rfl⟩, ?_⟩
    · have hfl2 := flat_take_le (ls := ls) (i + 1)
      have e : (ls.take (i + 1)).flatten.length = (ls.take i).flatten.length + ls[i].length := by
        rw [take_succ_get h1, List.flatten_append, List.length_append]
        simp
      rw [if_pos (by simpa using h1), idx_ok (List.getElem?_eq_getElem h1)]
      simp only [Option.bind_some]
      rw [W_add (by omega), W_succ (by omega), if_neg (by simp only [decide_eq_true_eq]; omega), e]
    · simp only [Int.toNat_natCast]
      omega
  · refine .inr ?_
    have hi2 : i = ls.length := by omega
    subst hi2
    rw [if_neg (by simp), List.take_length]
    unfold slices_Concat_sbyte_byte_K1 growF
    rw [if_pos (by omega)]
    simp only [Option.bind_some]
    rw [iter_eq (a0 := ((0 : Int), ([] : List Int))) (fun a => ∃ i : Nat, i ≤ ls.length ∧ a = ((i : Int), (ls.take i).flatten)) (fun a => ls.length - a.1.toNat) ls.flatten ?_ ⟨0, Nat.zero_le _, rfl⟩ (lt_ROUNDS (by simp only; omega))]
    · rfl
    rintro a ⟨i, hi, rfl⟩
    unfold slices_Concat_sbyte_byte_L1
    by_cases h1 : i < ls.length
    · refine .inl ⟨_, ?_, ⟨i + 1, h1, rfl⟩, ?_⟩
      · have hfl2 := flat_take_le (ls := ls) (i + 1)
        have e : (ls.take (i + 1)).flatten = (ls.take i).flatten ++ ls[i] := by
          rw [take_succ_get h1, List.flatten_append]
          simp
        rw [e, List.length_append] at hfl2
        rw [if_pos (by simpa using h1), idx_ok (List.getElem?_eq_getElem h1)]
        simp only [Option.bind_some]
        rw [app_ok (by omega), W_succ (by omega), e]
        rfl
      · simp only [Int.toNat_natCast]
        omega
    · refine .inr ?_
      have : i = ls.length := by omega
      subst this
      rw [if_neg (by simp), List.take_length]
      rfl

theorem all_take_snoc {α : Type} {l : List α} {p : α → Bool} {i : Nat} (h : i < l.length) : (l.take (i + 1)).all p = ((l.take i).all p && p l[i]) := by
  rw [take_succ_get h, List.all_append, List.all_cons, List.all_nil, Bool.and_true]
/-- A search: the loop that all of them are. -/
theorem find_iter {α A : Type} {l : List α} (p : α → Bool) (yes : Int → A) (no : A) (step : Int → Option (Int ⊕ A)) (hn : l.length ≤ 9223372036854775807)
    (h1 : ∀ (i : Nat) (hi : i < l.length), step (i : Int) = if p l[i] = true then some (.inr (yes i)) else some (.inl (W ((i : Int) + 1)))) (h2 : step (l.length : Int) = some (.inr no)) :
    ∃ r, iter step 0 = some r ∧ ((l.all (fun x => !p x) = true ∧ r = no) ∨ (l.all (fun x => !p x) = false ∧ ∃ i : Nat, i < l.length ∧ r = yes i)) := by
  refine iter_of (fun a => ∃ i : Nat, i ≤ l.length ∧ a = (i : Int) ∧ (l.take i).all (fun x => !p x) = true) (fun a => l.length - a.toNat) _ ?_ ⟨0, Nat.zero_le _, rfl, rfl⟩ (lt_ROUNDS (by omega))
  rintro a ⟨i, hi, rfl, ha⟩
  by_cases h : i < l.length
  · cases hp : p l[i] with
    | true =>
      refine .inr ⟨yes i, by rw [h1 i h, if_pos hp], .inr ⟨?_, i, h, rfl⟩⟩
      rw [← Bool.not_eq_true, List.all_eq_true]
      intro hall
      have := hall l[i] (List.getElem_mem h)
      simp [hp] at this
    | false =>
      refine .inl ⟨((i + 1 : Nat) : Int), by rw [h1 i h, if_neg (by simp [hp]), W_succ (by omega)], ⟨i + 1, h, rfl, ?_⟩, ?_⟩
      · rw [all_take_snoc h, ha, hp]
        rfl
      · simp only [Int.toNat_natCast]
        omega
  · refine .inr ⟨no, ?_, .inl ⟨?_, rfl⟩⟩
    · have : i = l.length := by omega
      rw [this, h2]
    · rwa [List.take_of_length_le (by omega)] at ha

theorem contains_byte {l : List Int} {a b : Int} (hn : l.length < 1000000000000000) : slices_ContainsFunc_sbyte_byte l a b = some (!(l.all fun x => decide (a ≤ x) && decide (x ≤ b))) := by
  unfold slices_ContainsFunc_sbyte_byte slices_IndexFunc_sbyte_byte
  obtain ⟨r, h1, h2⟩ := find_iter (l := l) (fun x => !(decide (a ≤ x) && decide (x ≤ b))) id (-1) (slices_IndexFunc_sbyte_byte_L1 l a b) (by omega) (fun i hi => by
    unfold slices_IndexFunc_sbyte_byte_L1 tags_letters_c1
    rw [if_pos (by simpa using hi), idx_ok (List.getElem?_eq_getElem hi)]
    simp only [Option.bind_some]
    by_cases h1 : a ≤ l[i] <;> by_cases h2 : l[i] ≤ b
    all_goals (simp only [h1, h2, decide_true, decide_false, Bool.and_true, Bool.and_false, Bool.not_true, Bool.not_false, Bool.false_and]; first | (rw [if_neg (by simp; omega)]; rfl) | (rw [if_pos (by simp; omega)]; rfl))) (by
    unfold slices_IndexFunc_sbyte_byte_L1
    rw [if_neg (by simp)]
    rfl)
  rw [h1]
  simp only [Bool.not_not] at h2
  rcases h2 with ⟨e, rfl⟩ | ⟨e, i, hi, rfl⟩
  · rw [e]; rfl
  · rw [e]
    simp
theorem contains_str {l : List (List UInt8)} {g : List UInt8 → Option Bool} {p : List UInt8 → Bool} (hn : l.length < 1000000000000000) (hg : ∀ s, s ∈ l → g s = some (!p s)) : slices_ContainsFunc_sstring_string l g = some (!(l.all p)) := by
  unfold slices_ContainsFunc_sstring_string slices_IndexFunc_sstring_string
  obtain ⟨r, h1, h2⟩ := find_iter (l := l) (fun x => !p x) id (-1) (slices_IndexFunc_sstring_string_L1 l g) (by omega) (fun i hi => by
    unfold slices_IndexFunc_sstring_string_L1
    rw [if_pos (by simpa using hi), idx_ok (List.getElem?_eq_getElem hi)]
    simp only [Option.bind_some]
    rw [hg _ (List.getElem_mem hi)]
    simp only [Option.bind_some]
    split <;> rfl) (by
    unfold slices_IndexFunc_sstring_string_L1
    rw [if_neg (by simp)]
    rfl)
  rw [h1]
  simp only [Bool.not_not] at h2
  rcases h2 with ⟨e, rfl⟩ | ⟨e, i, hi, rfl⟩
  · rw [show (fun x => p x) = p from rfl] at e; rw [e]; rfl
  · rw [show (fun x => p x) = p from rfl] at e
    rw [e]
    simp
def letterB (a b : Int) (s : List UInt8) : Bool := (bytesI s).all fun x => decide (a ≤ x) && decide (x ≤ b)
theorem letters_eq {s : List UInt8} {a b : Int} (hn : s.length < 1000000000000000) : tags_letters s a b = some (letterB a b s) := by
  unfold tags_letters letterB
  rw [contains_byte (by rwa [bytesI_len])]
  simp
theorem bytes_eq {a b : List Int} (hn : a.length < 1000000000000000) : jetsamlaw11_Bytes a b = some (decide (a = b)) := by
  unfold jetsamlaw11_Bytes
  by_cases hl : a.length = b.length
  · rw [if_neg (by simp [hl])]
    obtain ⟨r, h1, h2⟩ := find_iter (l := a.zip b) (fun x => decide (x.1 ≠ x.2)) (fun _ => false) true (jetsamlaw11_Bytes_L1 a b) (by simp; omega) (fun i hi => by
      simp only [List.length_zip] at hi
      unfold jetsamlaw11_Bytes_L1
      rw [if_pos (by simp; omega), idx_ok (List.getElem?_eq_getElem (show i < a.length by omega)), idx_ok (List.getElem?_eq_getElem (show i < b.length by omega))]
      simp only [Option.bind_some, List.getElem_zip, bne_iff_ne, decide_eq_true_eq]
      split <;> rfl) (by
      unfold jetsamlaw11_Bytes_L1
      rw [if_neg (by simp [hl])]
      rfl)
    rw [h1]
    congr 1
    rcases h2 with ⟨e, rfl⟩ | ⟨e, i, hi, rfl⟩
    · symm
      rw [decide_eq_true_eq]
      apply List.ext_getElem hl
      intro i h3 h4
      have := List.all_eq_true.1 e (a[i], b[i]) (by rw [List.mem_iff_getElem]; exact ⟨i, by simp; omega, by simp⟩)
      simpa using this
    · symm
      rw [decide_eq_false_iff_not]
      rintro rfl
      rw [← Bool.not_eq_true, List.all_eq_true] at e
      refine e fun x hx => ?_
      obtain ⟨j, hj, rfl⟩ := List.mem_iff_getElem.1 hx
      simp
  · rw [if_pos (by simp; omega)]
    congr 1
    symm
    rw [decide_eq_false_iff_not]
    rintro rfl
    exact hl rfl
theorem texts_eq {a b : List (List UInt8)} (hn : a.length < 1000000000000000) : jetsamlaw13_texts a b = some (decide (a = b)) := by
  unfold jetsamlaw13_texts
  by_cases hl : a.length = b.length
  · rw [if_neg (by simp [hl])]
    obtain ⟨r, h1, h2⟩ := find_iter (l := a.zip b) (fun x => decide (x.1 ≠ x.2)) (fun _ => false) true (jetsamlaw13_texts_L1 a b) (by simp; omega) (fun i hi => by
      simp only [List.length_zip] at hi
      unfold jetsamlaw13_texts_L1
      rw [if_pos (by simp; omega), idx_ok (List.getElem?_eq_getElem (show i < a.length by omega)), idx_ok (List.getElem?_eq_getElem (show i < b.length by omega))]
      simp only [Option.bind_some, List.getElem_zip, Bool.not_eq_true', beq_eq_false_iff_ne, decide_eq_true_eq]
      split <;> rfl) (by
      unfold jetsamlaw13_texts_L1
      rw [if_neg (by simp [hl])]
      rfl)
    rw [h1]
    congr 1
    rcases h2 with ⟨e, rfl⟩ | ⟨e, i, hi, rfl⟩
    · symm
      rw [decide_eq_true_eq]
      apply List.ext_getElem hl
      intro i h3 h4
      have := List.all_eq_true.1 e (a[i], b[i]) (by rw [List.mem_iff_getElem]; exact ⟨i, by simp; omega, by simp⟩)
      simpa using this
    · symm
      rw [decide_eq_false_iff_not]
      rintro rfl
      rw [← Bool.not_eq_true, List.all_eq_true] at e
      refine e fun x hx => ?_
      obtain ⟨j, hj, rfl⟩ := List.mem_iff_getElem.1 hx
      simp
  · rw [if_pos (by simp; omega)]
    congr 1
    symm
    rw [decide_eq_false_iff_not]
    rintro rfl
    exact hl rfl
theorem full_eq (b : List Int) : tags_full b = some (if b.length > 16777215 then ([], 21) else (b, 0)) := by
  unfold tags_full
  by_cases h : b.length > 16777215
  · rw [if_pos (by simp; omega), if_pos h]
  · rw [if_neg (by simp; omega), if_neg h]
end Go.Vg

/- Which texts are UTF-8. -/
namespace Go.Vg

def uCls (c : Nat) : Nat × Nat × Nat :=
  if c < 194 then (0, 0, 0) else if c < 224 then (2, 128, 191) else if c = 224 then (3, 160, 191) else if c < 237 then (3, 128, 191) else if c = 237 then (3, 128, 159) else if c < 240 then (3, 128, 191)
  else if c = 240 then (4, 144, 191) else if c < 244 then (4, 128, 191) else if c = 244 then (4, 128, 143) else (0, 0, 0)
def contB (l : List UInt8) (i lo hi : Nat) : Bool := match l[i]? with
  | some b => decide (lo ≤ b.toNat) && decide (b.toNat ≤ hi)
  | none => false
/-- How many bytes the first sign has; 0: none is there. -/
def uLen (l : List UInt8) : Nat := match l with
  | [] => 0
  | c :: _ => if c.toNat < 128 then 1 else
    if (uCls c.toNat).1 = 2 then (if contB l 1 (uCls c.toNat).2.1 (uCls c.toNat).2.2 = true then 2 else 0)
    else if (uCls c.toNat).1 = 3 then (if contB l 1 (uCls c.toNat).2.1 (uCls c.toNat).2.2 = true ∧ contB l 2 128 191 = true then 3 else 0)
    else if (uCls c.toNat).1 = 4 then (if contB l 1 (uCls c.toNat).2.1 (uCls c.toNat).2.2 = true ∧ contB l 2 128 191 = true ∧ contB l 3 128 191 = true then 4 else 0)
    else 0
def utfGo : Nat → List UInt8 → Bool
  | 0, l => l.isEmpty
  | f + 1, l => l.isEmpty || (uLen l != 0 && utfGo f (l.drop (uLen l)))
theorem utfGo_more : ∀ (f g : Nat) (l : List UInt8), l.length ≤ f → l.length ≤ g → utfGo f l = utfGo g l
  | 0, g, l, h, _ => by
    have : l = [] := List.eq_nil_of_length_eq_zero (by omega)
    subst this
    cases g <;> rfl
  | f + 1, 0, l, _, h => by
    have : l = [] := List.eq_nil_of_length_eq_zero (by omega)
    subst this
    rfl
  | f + 1, g + 1, l, h1, h2 => by
    unfold utfGo
    by_cases h : uLen l = 0
    · simp [h]
    · rw [utfGo_more f g (l.drop (uLen l)) (by simp; omega) (by simp; omega)]
def utfOk (l : List UInt8) : Bool := utfGo l.length l
theorem utfOk_nil : utfOk [] = true := rfl
theorem utfOk_step {l : List UInt8} (h : l ≠ []) : utfOk l = (uLen l != 0 && utfOk (l.drop (uLen l))) := by
  unfold utfOk
  cases hl : l.length with
  | zero => exact absurd (List.eq_nil_of_length_eq_zero hl) h
  | succ n =>
    rw [utfGo]
    have : l.isEmpty = false := by cases l <;> simp_all
    rw [this, Bool.false_or]
    by_cases h0 : uLen l = 0
    · simp [h0]
    · rw [utfGo_more n (l.drop (uLen l)).length _ (by simp; omega) (Nat.le_refl _)]
theorem utfOk_one {c : UInt8} {t : List UInt8} (h : c.toNat < 128) : utfOk (c :: t) = utfOk t := by
  rw [utfOk_step (by simp)]
  have : uLen (c :: t) = 1 := by simp [uLen, h]
  rw [this]
  rfl
theorem utfOk_skip : ∀ (k : Nat) (l : List UInt8), (∀ b, b ∈ l.take k → b.toNat < 128) → utfOk (l.drop k) = utfOk l
  | 0, _, _ => rfl
  | k + 1, [], _ => rfl
  | k + 1, c :: t, h => by
    rw [List.drop_succ_cons, utfOk_one (h c (by simp)), utfOk_skip k t fun b hb => h b (by simp [hb])]

theorem u64_id {x : Nat} (h : x < 18446744073709551616) : IntKind.u64.wrap (x : Int) = x := wrap_id (by rw [has_iff]; simp only [lo, hi]; omega)
theorem or_u64 {x y : Nat} (hx : x < 18446744073709551616) (hy : y < 18446744073709551616) : arD .or .u64 (x : Int) (y : Int) = ((x ||| y : Nat) : Int) := by
  have h1 : (BitVec.ofInt IntKind.u64.bits (x : Int) ||| BitVec.ofInt IntKind.u64.bits (y : Int)).toNat = x ||| y := by
    rw [BitVec.ofInt_natCast, BitVec.ofInt_natCast, BitVec.toNat_or, BitVec.toNat_ofNat, BitVec.toNat_ofNat]
    simp only [IntKind.bits]
    rw [Nat.mod_eq_of_lt (by omega), Nat.mod_eq_of_lt (by omega)]
  simp only [arD, h1]
  have : x ||| y < 2 ^ 64 := Nat.or_lt_two_pow (by omega) (by omega)
  exact u64_id (by omega)
theorem or_lt {x y : Nat} (hx : x < 18446744073709551616) (hy : y < 18446744073709551616) : x ||| y < 18446744073709551616 := by
  have : x ||| y < 2 ^ 64 := Nat.or_lt_two_pow (by omega) (by omega)
  omega
theorem and_u64 {x y : Nat} (hx : x < 18446744073709551616) (hy : y < 18446744073709551616) : arD .and .u64 (x : Int) (y : Int) = ((x &&& y : Nat) : Int) := by
  have h1 : (BitVec.ofInt IntKind.u64.bits (x : Int) &&& BitVec.ofInt IntKind.u64.bits (y : Int)).toNat = x &&& y := by
    rw [BitVec.ofInt_natCast, BitVec.ofInt_natCast, BitVec.toNat_and, BitVec.toNat_ofNat, BitVec.toNat_ofNat]
    simp only [IntKind.bits]
    rw [Nat.mod_eq_of_lt (by omega), Nat.mod_eq_of_lt (by omega)]
  simp only [arD, h1]
  have : x &&& y ≤ x := Nat.and_le_left
  exact u64_id (by omega)
theorem shl_u64 {x s : Nat} (h : x * 2 ^ s < 18446744073709551616) (hs : s ≤ 64) : shD .shl .u64 (x : Int) (s : Int) = ((x * 2 ^ s : Nat) : Int) := by
  simp only [shD, IntKind.bits, Int.toNat_natCast]
  rw [Nat.min_eq_left hs]
  have : (x : Int) * 2 ^ s = ((x * 2 ^ s : Nat) : Int) := by push_cast; rfl
  rw [this]
  exact u64_id (by omega)

/-- No byte of a word has its highest bit. -/
def lowW (w : Nat) : Prop := ∀ i, i < 8 → w.testBit (8 * i + 7) = false
theorem lowW_or {x y : Nat} (h : lowW (x ||| y)) : lowW x ∧ lowW y :=
  ⟨fun i hi => by have := h i hi; rw [Nat.testBit_or, Bool.or_eq_false_iff] at this; exact this.1, fun i hi => by have := h i hi; rw [Nat.testBit_or, Bool.or_eq_false_iff] at this; exact this.2⟩
theorem lowW_of {x : Nat} (hx : x < 18446744073709551616) (h : (arD .and .u64 (x : Int) 9259542123273814144 == 0) = true) : lowW x := by
  rw [show (9259542123273814144 : Int) = ((9259542123273814144 : Nat) : Int) from rfl, and_u64 hx (by decide)] at h
  have h0 : x &&& 9259542123273814144 = 0 := by simpa using h
  intro i hi
  have : (x &&& 9259542123273814144).testBit (8 * i + 7) = false := by rw [h0]; simp
  rw [Nat.testBit_and, Bool.and_eq_false_iff] at this
  rcases this with h | h
  · exact h
  · exfalso
    revert h
    match i, hi with
    | 0, _ => decide
    | 1, _ => decide
    | 2, _ => decide
    | 3, _ => decide
    | 4, _ => decide
    | 5, _ => decide
    | 6, _ => decide
    | 7, _ => decide
theorem bit7 {b i : Nat} (hb : b < 256) (h : (b * 2 ^ (8 * i)).testBit (8 * i + 7) = false) : b < 128 := by
  rw [← Nat.shiftLeft_eq, Nat.testBit_shiftLeft] at h
  simp only [ge_iff_le, Nat.le_add_right, decide_true, Bool.true_and, Nat.add_sub_cancel_left] at h
  rw [Nat.testBit_eq_decide_div_mod_eq, decide_eq_false_iff_not] at h
  omega
theorem word_ok {t : List UInt8} (h : 8 ≤ t.length) : ∃ w : Nat, w < 18446744073709551616 ∧ unicode_utf8_word_string t = some (w : Int) ∧ (lowW w → ∀ b, b ∈ t.take 8 → b.toNat < 128) := by
  match t, h with
  | b0 :: b1 :: b2 :: b3 :: b4 :: b5 :: b6 :: b7 :: r, _ =>
    have h0 := b0.toNat_lt
    have h1 := b1.toNat_lt
    have h2 := b2.toNat_lt
    have h3 := b3.toNat_lt
    have h4 := b4.toNat_lt
    have h5 := b5.toNat_lt
    have h6 := b6.toNat_lt
    have h7 := b7.toNat_lt
    refine ⟨b0.toNat ||| b1.toNat * 2 ^ (8 * 1) ||| b2.toNat * 2 ^ (8 * 2) ||| b3.toNat * 2 ^ (8 * 3) ||| b4.toNat * 2 ^ (8 * 4) ||| b5.toNat * 2 ^ (8 * 5) ||| b6.toNat * 2 ^ (8 * 6) ||| b7.toNat * 2 ^ (8 * 7), ?_, ?_, fun hl b hb => ?_⟩
    · exact or_lt (or_lt (or_lt (or_lt (or_lt (or_lt (or_lt (by omega) (by omega)) (by omega)) (by omega)) (by omega)) (by omega)) (by omega)) (by omega)
    · unfold unicode_utf8_word_string
      simp only [idx, List.getElem?_cons_zero, List.getElem?_cons_succ, Int.toNat_zero, show (1 : Int).toNat = 1 from rfl, show (2 : Int).toNat = 2 from rfl, show (3 : Int).toNat = 3 from rfl, show (4 : Int).toNat = 4 from rfl, show (5 : Int).toNat = 5 from rfl, show (6 : Int).toNat = 6 from rfl, show (7 : Int).toNat = 7 from rfl, show (0 : Int) ≤ 0 by decide, show (0 : Int) ≤ 1 by decide, show (0 : Int) ≤ 2 by decide, show (0 : Int) ≤ 3 by decide, show (0 : Int) ≤ 4 by decide, show (0 : Int) ≤ 5 by decide, show (0 : Int) ≤ 6 by decide, show (0 : Int) ≤ 7 by decide, if_true, Option.bind_some]
      rw [show (8 : Int) = ((8 : Nat) : Int) from rfl, show (16 : Int) = ((16 : Nat) : Int) from rfl, show (24 : Int) = ((24 : Nat) : Int) from rfl, show (32 : Int) = ((32 : Nat) : Int) from rfl, show (40 : Int) = ((40 : Nat) : Int) from rfl, show (48 : Int) = ((48 : Nat) : Int) from rfl, show (56 : Int) = ((56 : Nat) : Int) from rfl]
      rw [shl_u64 (by omega) (by decide), shl_u64 (by omega) (by decide), shl_u64 (by omega) (by decide), shl_u64 (by omega) (by decide), shl_u64 (by omega) (by decide), shl_u64 (by omega) (by decide), shl_u64 (by omega) (by decide)]
      rw [or_u64 (by omega) (by omega)]
      rw [or_u64 (or_lt (by omega) (by omega)) (by omega)]
      rw [or_u64 (or_lt (or_lt (by omega) (by omega)) (by omega)) (by omega)]
      rw [or_u64 (or_lt (or_lt (or_lt (by omega) (by omega)) (by omega)) (by omega)) (by omega)]
      rw [or_u64 (or_lt (or_lt (or_lt (or_lt (by omega) (by omega)) (by omega)) (by omega)) (by omega)) (by omega)]
      rw [or_u64 (or_lt (or_lt (or_lt (or_lt (or_lt (by omega) (by omega)) (by omega)) (by omega)) (by omega)) (by omega)) (by omega)]
      rw [or_u64 (or_lt (or_lt (or_lt (or_lt (or_lt (or_lt (by omega) (by omega)) (by omega)) (by omega)) (by omega)) (by omega)) (by omega)) (by omega)]
    · obtain ⟨hl, g7⟩ := lowW_or hl
      obtain ⟨hl, g6⟩ := lowW_or hl
      obtain ⟨hl, g5⟩ := lowW_or hl
      obtain ⟨hl, g4⟩ := lowW_or hl
      obtain ⟨hl, g3⟩ := lowW_or hl
      obtain ⟨hl, g2⟩ := lowW_or hl
      obtain ⟨g0, g1⟩ := lowW_or hl
      simp only [List.take_succ_cons, List.take_zero, List.mem_cons, List.not_mem_nil, or_false] at hb
      rcases hb with rfl | rfl | rfl | rfl | rfl | rfl | rfl | rfl
      · exact bit7 (i := 0) h0 (by simpa using g0 0 (by decide))
      · exact bit7 h1 (g1 1 (by decide))
      · exact bit7 h2 (g2 2 (by decide))
      · exact bit7 h3 (g3 3 (by decide))
      · exact bit7 h4 (g4 4 (by decide))
      · exact bit7 h5 (g5 5 (by decide))
      · exact bit7 h6 (g6 6 (by decide))
      · exact bit7 h7 (g7 7 (by decide))
end Go.Vg

/- utf8.ValidString answers utfOk. -/
namespace Go.Vg

def tabChk (c : Nat) : Bool := match idx tab0 (c : Int) with
  | some p => match idx tab1 (shD .shr .u8 p 4) with
    | some q => if (uCls c).1 = 2 ∨ (uCls c).1 = 3 ∨ (uCls c).1 = 4 then decide (arD .and .u8 p 7 = ((uCls c).1 : Int)) && decide (q.m_lo = ((uCls c).2.1 : Int)) && decide (q.m_hi = ((uCls c).2.2 : Int))
      else !(arD .and .u8 p 7 == 2) && !(arD .and .u8 p 7 == 3) && !(arD .and .u8 p 7 == 4)
    | none => false
  | none => false
theorem tab_all : (List.range 256).all (fun c => decide (c < 128) || tabChk c) = true := by kernel_rfl
theorem tab_ok' {c : Nat} (h1 : 128 ≤ c) (h2 : c < 256) : ∃ p q, idx tab0 (c : Int) = some p ∧ idx tab1 (shD .shr .u8 p 4) = some q ∧
    (((uCls c).1 = 2 ∨ (uCls c).1 = 3 ∨ (uCls c).1 = 4) ∧ arD .and .u8 p 7 = ((uCls c).1 : Int) ∧ q.m_lo = ((uCls c).2.1 : Int) ∧ q.m_hi = ((uCls c).2.2 : Int) ∨
     ¬ ((uCls c).1 = 2 ∨ (uCls c).1 = 3 ∨ (uCls c).1 = 4) ∧ (arD .and .u8 p 7 == 2) = false ∧ (arD .and .u8 p 7 == 3) = false ∧ (arD .and .u8 p 7 == 4) = false) := by
  have h := List.all_eq_true.1 tab_all c (List.mem_range.2 h2)
  rw [decide_eq_false (by omega), Bool.false_or] at h
  unfold tabChk at h
  split at h
  · rename_i p hp
    split at h
    · rename_i q hq
      refine ⟨p, q, hp, hq, ?_⟩
      split at h
      · rename_i hc
        simp only [Bool.and_eq_true, decide_eq_true_eq] at h
        exact .inl ⟨hc, h.1.1, h.1.2, h.2⟩
      · rename_i hc
        simp only [Bool.and_eq_true, Bool.not_eq_true'] at h
        exact .inr ⟨hc, h.1.1, h.1.2, h.2⟩
    · cases h
  · cases h

/-- Of a text the rest, behind some small bytes. -/
def Rest (l t : List UInt8) : Prop := utfOk t = utfOk l ∧ t.length ≤ l.length
theorem rest_drop {l : List UInt8} {k : Nat} (h : ∀ b, b ∈ l.take k → b.toNat < 128) : Rest l (l.drop k) := ⟨utfOk_skip k l h, by simp⟩
theorem Rest.trans {a b c : List UInt8} (h : Rest a b) (k : Rest b c) : Rest a c := ⟨k.1.trans h.1, Nat.le_trans k.2 h.2⟩
theorem Rest.refl (a : List UInt8) : Rest a a := ⟨rfl, Nat.le_refl _⟩
theorem sub_tail {l : List UInt8} {k : Nat} (h : k ≤ l.length) : sub l (k : Int) (l.length : Int) = some (l.drop k) := by
  rw [sub_ok h (Nat.le_refl _), List.take_of_length_le (by simp)]
theorem mem_take_add {l : List UInt8} {j k : Nat} {P : UInt8 → Prop} (h1 : ∀ b, b ∈ l.take j → P b) (h2 : ∀ b, b ∈ (l.drop j).take k → P b) : ∀ b, b ∈ l.take (j + k) → P b := fun b hb => by
  rw [List.take_add, List.mem_append] at hb
  exact hb.elim (h1 b) (h2 b)

theorem L2_ok {t : List UInt8} (hbig : t.length < 1000000000000) : ∃ r, iter unicode_utf8_ValidString_L2 t = some r ∧ ∃ t', Rest t t' ∧ r = .inl t' := by
  refine iter_of (fun a => Rest t a) (fun a => a.length) _ ?_ (Rest.refl t) (lt_ROUNDS (by omega))
  intro a ha
  unfold unicode_utf8_ValidString_L2
  by_cases h : a.length > 32
  · rw [if_pos (by simp only [decide_eq_true_eq]; omega)]
    rw [show (8 : Int) = ((8 : Nat) : Int) from rfl, show (16 : Int) = ((16 : Nat) : Int) from rfl, show (24 : Int) = ((24 : Nat) : Int) from rfl, sub_tail (by omega), sub_tail (by omega), sub_tail (by omega)]
    obtain ⟨w1, l1, e1, k1⟩ := word_ok (t := a) (by omega)
    obtain ⟨w2, l2, e2, k2⟩ := word_ok (t := a.drop 8) (by simp; omega)
    obtain ⟨w3, l3, e3, k3⟩ := word_ok (t := a.drop 16) (by simp; omega)
    obtain ⟨w4, l4, e4, k4⟩ := word_ok (t := a.drop 24) (by simp; omega)
    simp only [Option.bind_some]
    rw [e1, e2, e3, e4]
    simp only [Option.bind_some]
    rw [or_u64 l1 l2, or_u64 l3 l4, or_u64 (or_lt l1 l2) (or_lt l3 l4)]
    unfold unicode_utf8_ValidString_K4
    split
    · rename_i hc
      obtain ⟨g12, g34⟩ := lowW_or (lowW_of (or_lt (or_lt l1 l2) (or_lt l3 l4)) hc)
      obtain ⟨g1, g2⟩ := lowW_or g12
      obtain ⟨g3, g4⟩ := lowW_or g34
      rw [show (32 : Int) = ((32 : Nat) : Int) from rfl, sub_tail (by omega)]
      refine .inl ⟨_, rfl, ha.trans (rest_drop ?_), by simp; omega⟩
      exact mem_take_add (j := 24) (k := 8) (mem_take_add (j := 16) (k := 8) (mem_take_add (j := 8) (k := 8) (k1 g1) (k2 g2)) (k3 g3)) (k4 g4)
    · exact .inr ⟨_, rfl, a, ha, rfl⟩
  · rw [if_neg (by simp only [decide_eq_true_eq]; omega)]
    exact .inr ⟨_, rfl, a, ha, rfl⟩

/-- Behind a small byte: many small ones may be left out. -/
theorem fast_ok {t4 : List UInt8} (hbig : t4.length < 1000000000000) : ∃ t', Rest t4 t' ∧
    (if (decide ((t4.length : Int) > 8)) = true then
        (unicode_utf8_word_string t4).bind fun r6 =>
        if ((arD .and .u64 r6 9259542123273814144) == 0) = true then
          (sub t4 8 (t4.length : Int)).bind fun t7 =>
          if (decide ((t7.length : Int) > 16)) = true then
            (sub t7 8 (t7.length : Int)).bind fun t20 =>
            (unicode_utf8_word_string t7).bind fun r21 =>
            (unicode_utf8_word_string t20).bind fun r22 =>
            unicode_utf8_ValidString_K3 t7 ((arD .and .u64 (arD .or .u64 r21 r22) 9259542123273814144) == 0)
          else
            unicode_utf8_ValidString_K3 t7 false
        else
          unicode_utf8_ValidString_K2 t4
      else
        unicode_utf8_ValidString_K2 t4) = some (.inl t') := by
  by_cases h : t4.length > 8
  · rw [if_pos (by simp only [decide_eq_true_eq]; omega)]
    obtain ⟨w1, l1, e1, k1⟩ := word_ok (t := t4) (by omega)
    rw [e1]
    simp only [Option.bind_some]
    split
    · rename_i hc
      have g1 := k1 (lowW_of l1 hc)
      rw [show (8 : Int) = ((8 : Nat) : Int) from rfl, sub_tail (by omega)]
      simp only [Option.bind_some]
      have r1 := rest_drop g1
      by_cases h2 : (t4.drop 8).length > 16
      · rw [if_pos (by simp only [decide_eq_true_eq]; omega), sub_tail (by omega)]
        obtain ⟨w2, l2, e2, k2⟩ := word_ok (t := t4.drop 8) (by omega)
        obtain ⟨w3, l3, e3, k3⟩ := word_ok (t := (t4.drop 8).drop 8) (by simp only [List.length_drop] at *; omega)
        simp only [Option.bind_some]
        rw [e2, e3]
        simp only [Option.bind_some]
        rw [or_u64 l2 l3]
        unfold unicode_utf8_ValidString_K3
        split
        · rename_i hc2
          obtain ⟨g2, g3⟩ := lowW_or (lowW_of (or_lt l2 l3) hc2)
          rw [show (16 : Int) = ((16 : Nat) : Int) from rfl, sub_tail (by omega)]
          simp only [Option.bind_some]
          obtain ⟨r, hr, t', ht, rfl⟩ := L2_ok (t := (t4.drop 8).drop 16) (by simp only [List.length_drop] at *; omega)
          exact ⟨t', (r1.trans (rest_drop (mem_take_add (j := 8) (k := 8) (k2 g2) (k3 g3)))).trans ht, hr⟩
        · exact ⟨_, r1, rfl⟩
      · rw [if_neg (by simp only [decide_eq_true_eq]; omega)]
        exact ⟨_, r1, rfl⟩
    · exact ⟨_, Rest.refl _, rfl⟩
  · rw [if_neg (by simp only [decide_eq_true_eq]; omega)]
    exact ⟨_, Rest.refl _, rfl⟩

theorem utfOk_bad {l : List UInt8} (hl : l ≠ []) (h : uLen l = 0) : utfOk l = false := by rw [utfOk_step hl, h]; rfl
theorem utfOk_more {l : List UInt8} {n : Nat} (hl : l ≠ []) (h : uLen l = n) (hn : n ≠ 0) : utfOk l = utfOk (l.drop n) := by
  rw [utfOk_step hl, h]
  have : (n != 0) = true := by simpa using hn
  rw [this, Bool.true_and]
theorem contB_none {l : List UInt8} {i lo hi : Nat} (h : l.length ≤ i) : contB l i lo hi = false := by
  unfold contB
  rw [List.getElem?_eq_none h]
theorem contB_some {l : List UInt8} {i lo hi : Nat} {b : UInt8} (h : l[i]? = some b) : contB l i lo hi = (decide (lo ≤ b.toNat) && decide (b.toNat ≤ hi)) := by
  unfold contB
  rw [h]

theorem utf8_step {a : List UInt8} (hbig : a.length < 1000000000000) : (∃ a', unicode_utf8_ValidString_L1 a = some (.inl a') ∧ utfOk a' = utfOk a ∧ a'.length < a.length) ∨ unicode_utf8_ValidString_L1 a = some (.inr (utfOk a)) := by
  unfold unicode_utf8_ValidString_L1
  match a, hbig with
  | [], _ =>
    rw [if_neg (by simp)]
    exact .inr rfl
  | c :: t, hbig =>
    have hc := c.toNat_lt
    rw [if_pos (by simp only [decide_eq_true_eq, List.length_cons]; omega)]
    rw [show idx (c :: t) 0 = some c from rfl]
    simp only [Option.bind_some]
    by_cases h1 : c.toNat < 128
    · rw [if_pos (by simp only [decide_eq_true_eq]; omega)]
      rw [show (1 : Int) = ((1 : Nat) : Int) from rfl, sub_tail (by simp)]
      simp only [Option.bind_some, List.drop_succ_cons, List.drop_zero]
      obtain ⟨t', ht, he⟩ := fast_ok (t4 := t) (by simp only [List.length_cons] at hbig; omega)
      refine .inl ⟨t', he, ?_, ?_⟩
      · rw [ht.1, utfOk_one h1]
      · have := ht.2
        simp only [List.length_cons]
        omega
    · rw [if_neg (by simp only [decide_eq_true_eq]; omega)]
      obtain ⟨p, q, hp, hq, hh⟩ := tab_ok' (c := c.toNat) (by omega) (by omega)
      rw [hp]
      simp only [Option.bind_some]
      rw [hq]
      simp only [Option.bind_some]
      have hu : uLen (c :: t) = if (uCls c.toNat).1 = 2 then (if contB (c :: t) 1 (uCls c.toNat).2.1 (uCls c.toNat).2.2 = true then 2 else 0)
          else if (uCls c.toNat).1 = 3 then (if contB (c :: t) 1 (uCls c.toNat).2.1 (uCls c.toNat).2.2 = true ∧ contB (c :: t) 2 128 191 = true then 3 else 0)
          else if (uCls c.toNat).1 = 4 then (if contB (c :: t) 1 (uCls c.toNat).2.1 (uCls c.toNat).2.2 = true ∧ contB (c :: t) 2 128 191 = true ∧ contB (c :: t) 3 128 191 = true then 4 else 0)
          else 0 := by
        simp only [uLen, if_neg h1]
      generalize hl : uCls c.toNat = k at *
      obtain ⟨n, lo, hi⟩ := k
      simp only at *
      have hne : c :: t ≠ [] := by simp
      have K : ∀ b : Bool, (b = false → uLen (c :: t) = n) → (b = true → uLen (c :: t) = 0) → n ≠ 0 → n ≤ t.length + 1 ∨ b = true →
          (∃ a', (if b = true then (Option.map .inr <| some false) else (sub (c :: t) (n : Int) ((c :: t).length : Int)).bind fun t26 => some (.inl t26) : Option (List UInt8 ⊕ Bool)) = some (.inl a') ∧ utfOk a' = utfOk (c :: t) ∧ a'.length < (c :: t).length) ∨
          (if b = true then (Option.map .inr <| some false) else (sub (c :: t) (n : Int) ((c :: t).length : Int)).bind fun t26 => some (.inl t26) : Option (List UInt8 ⊕ Bool)) = some (.inr (utfOk (c :: t))) := by
        intro b k1 k2 k3 k4
        cases b with
        | true =>
          refine .inr ?_
          rw [utfOk_bad hne (k2 rfl)]
          rfl
        | false =>
          have k4 : n ≤ t.length + 1 := k4.elim id (fun h => nomatch h)
          refine .inl ⟨(c :: t).drop n, ?_, (utfOk_more hne (k1 rfl) k3).symm, by simp only [List.length_drop, List.length_cons]; omega⟩
          rw [if_neg (by simp), sub_tail (by simp only [List.length_cons]; omega)]
          rfl
      rcases hh with ⟨hn, hp7, hlo, hhi⟩ | ⟨hn, h2, h3, h4⟩
      · rw [hp7, hlo, hhi]
        rcases hn with rfl | rfl | rfl
        · rw [if_pos (show (((2 : Nat) : Int) == 2) = true from by decide)]
          rw [if_pos rfl] at hu
          match t, hbig with
          | [], _ => exact K true (fun h => nomatch h) (fun _ => by rw [hu, contB_none (by simp)]; rfl) (by decide) (.inr rfl)
          | d :: t, _ =>
            rw [contB_some (b := d) rfl] at hu
            rw [if_neg (by simp only [decide_eq_true_eq, List.length_cons]; omega), show idx (c :: d :: t) 1 = some d from rfl]
            simp only [Option.bind_some]
            by_cases g1 : d.toNat < lo
            · rw [if_pos (by simp only [decide_eq_true_eq]; omega)]
              exact K true (fun h => nomatch h) (fun _ => by rw [hu, decide_eq_false (by omega)]; rfl) (by decide) (.inr rfl)
            · rw [if_neg (by simp only [decide_eq_true_eq]; omega)]
              refine K _ (fun h => ?_) (fun h => ?_) (by decide) (.inl (by simp only [List.length_cons]; omega))
              · rw [decide_eq_false_iff_not] at h
                rw [hu, decide_eq_true (by omega), decide_eq_true (by omega)]
                rfl
              · rw [decide_eq_true_eq] at h
                rw [hu, decide_eq_true (by omega), decide_eq_false (by omega)]
                rfl
        · rw [if_neg (by decide : ¬ (((3 : Nat) : Int) == 2) = true), if_pos (show (((3 : Nat) : Int) == 3) = true from by decide)]
          rw [if_neg (by decide), if_pos rfl] at hu
          match t, hbig with
          | [], _ => exact K true (fun h => nomatch h) (fun _ => by rw [hu, contB_none (by simp)]; rfl) (by decide) (.inr rfl)
          | [d], _ => exact K true (fun h => nomatch h) (fun _ => by rw [hu, contB_none (i := 2) (by simp)]; simp) (by decide) (.inr rfl)
          | d :: e :: t, _ =>
            rw [contB_some (b := d) rfl, contB_some (b := e) (i := 2) rfl] at hu
            rw [if_neg (by simp only [decide_eq_true_eq, List.length_cons]; omega), show idx (c :: d :: e :: t) 1 = some d from rfl, show idx (c :: d :: e :: t) 2 = some e from rfl]
            simp only [Option.bind_some]
            by_cases g1 : d.toNat < lo
            · rw [if_pos (by simp only [decide_eq_true_eq]; omega)]
              exact K true (fun h => nomatch h) (fun _ => by rw [hu, decide_eq_false (by omega)]; simp) (by decide) (.inr rfl)
            · rw [if_neg (by simp only [decide_eq_true_eq]; omega)]
              by_cases g2 : hi < d.toNat
              · rw [if_pos (by simp only [decide_eq_true_eq]; omega)]
                exact K true (fun h => nomatch h) (fun _ => by rw [hu, decide_eq_false (p := d.toNat ≤ hi) (by omega)]; simp) (by decide) (.inr rfl)
              · rw [if_neg (by simp only [decide_eq_true_eq]; omega)]
                rw [decide_eq_true (p := lo ≤ d.toNat) (by omega), decide_eq_true (p := d.toNat ≤ hi) (by omega)] at hu
                by_cases g3 : e.toNat < 128
                · rw [if_pos (by simp only [decide_eq_true_eq]; omega)]
                  exact K true (fun h => nomatch h) (fun _ => by rw [hu, decide_eq_false (p := 128 ≤ e.toNat) (by omega)]; simp) (by decide) (.inr rfl)
                · rw [if_neg (by simp only [decide_eq_true_eq]; omega)]
                  refine K _ (fun h => ?_) (fun h => ?_) (by decide) (.inl (by simp only [List.length_cons]; omega))
                  · rw [decide_eq_false_iff_not] at h
                    rw [hu, decide_eq_true (by omega), decide_eq_true (by omega)]
                    rfl
                  · rw [decide_eq_true_eq] at h
                    rw [hu, decide_eq_true (by omega), decide_eq_false (by omega)]
                    rfl
        · rw [if_neg (by decide : ¬ (((4 : Nat) : Int) == 2) = true), if_neg (by decide : ¬ (((4 : Nat) : Int) == 3) = true), if_pos (show (((4 : Nat) : Int) == 4) = true from by decide)]
          rw [if_neg (by decide), if_neg (by decide), if_pos rfl] at hu
          match t, hbig with
          | [], _ => exact K true (fun h => nomatch h) (fun _ => by rw [hu, contB_none (by simp)]; rfl) (by decide) (.inr rfl)
          | [d], _ => exact K true (fun h => nomatch h) (fun _ => by rw [hu, contB_none (i := 2) (by simp)]; simp) (by decide) (.inr rfl)
          | [d, e], _ => exact K true (fun h => nomatch h) (fun _ => by rw [hu, contB_none (i := 3) (by simp)]; simp) (by decide) (.inr rfl)
          | d :: e :: f :: t, _ =>
            rw [contB_some (b := d) rfl, contB_some (b := e) (i := 2) rfl, contB_some (b := f) (i := 3) rfl] at hu
            rw [if_neg (by simp only [decide_eq_true_eq, List.length_cons]; omega), show idx (c :: d :: e :: f :: t) 1 = some d from rfl, show idx (c :: d :: e :: f :: t) 2 = some e from rfl, show idx (c :: d :: e :: f :: t) 3 = some f from rfl]
            simp only [Option.bind_some]
            by_cases g1 : d.toNat < lo
            · rw [if_pos (by simp only [decide_eq_true_eq]; omega)]
              exact K true (fun h => nomatch h) (fun _ => by rw [hu, decide_eq_false (by omega)]; simp) (by decide) (.inr rfl)
            · rw [if_neg (by simp only [decide_eq_true_eq]; omega)]
              by_cases g2 : hi < d.toNat
              · rw [if_pos (by simp only [decide_eq_true_eq]; omega)]
                exact K true (fun h => nomatch h) (fun _ => by rw [hu, decide_eq_false (p := d.toNat ≤ hi) (by omega)]; simp) (by decide) (.inr rfl)
              · rw [if_neg (by simp only [decide_eq_true_eq]; omega)]
                rw [decide_eq_true (p := lo ≤ d.toNat) (by omega), decide_eq_true (p := d.toNat ≤ hi) (by omega)] at hu
                by_cases g3 : e.toNat < 128
                · rw [if_pos (by simp only [decide_eq_true_eq]; omega)]
                  exact K true (fun h => nomatch h) (fun _ => by rw [hu, decide_eq_false (p := 128 ≤ e.toNat) (by omega)]; simp) (by decide) (.inr rfl)
                · rw [if_neg (by simp only [decide_eq_true_eq]; omega)]
                  by_cases g4 : 191 < e.toNat
                  · rw [if_pos (by simp only [decide_eq_true_eq]; omega)]
                    exact K true (fun h => nomatch h) (fun _ => by rw [hu, decide_eq_false (p := e.toNat ≤ 191) (by omega)]; simp) (by decide) (.inr rfl)
                  · rw [if_neg (by simp only [decide_eq_true_eq]; omega)]
                    rw [decide_eq_true (p := 128 ≤ e.toNat) (by omega), decide_eq_true (p := e.toNat ≤ 191) (by omega)] at hu
                    by_cases g5 : f.toNat < 128
                    · rw [if_pos (by simp only [decide_eq_true_eq]; omega)]
                      exact K true (fun h => nomatch h) (fun _ => by rw [hu, decide_eq_false (p := 128 ≤ f.toNat) (by omega)]; simp) (by decide) (.inr rfl)
                    · rw [if_neg (by simp only [decide_eq_true_eq]; omega)]
                      refine K _ (fun h => ?_) (fun h => ?_) (by decide) (.inl (by simp only [List.length_cons]; omega))
                      · rw [decide_eq_false_iff_not] at h
                        rw [hu, decide_eq_true (by omega), decide_eq_true (by omega)]
                        rfl
                      · rw [decide_eq_true_eq] at h
                        rw [hu, decide_eq_true (by omega), decide_eq_false (by omega)]
                        rfl
      · rw [h2, h3, h4]
        simp only [Bool.false_eq_true, if_false]
        rw [utfOk_bad hne]
        · exact .inr rfl
        · rw [hu, if_neg (fun h => hn (.inl h)), if_neg (fun h => hn (.inr (.inl h))), if_neg (fun h => hn (.inr (.inr h)))]
theorem valid_eq {s : List UInt8} (hbig : s.length < 1000000000000) : unicode_utf8_ValidString s = some (utfOk s) := by
  unfold unicode_utf8_ValidString
  refine iter_eq (fun a => utfOk a = utfOk s ∧ a.length ≤ s.length) (fun a => a.length) _ ?_ ⟨rfl, Nat.le_refl _⟩ (lt_ROUNDS (by omega))
  rintro a ⟨h1, h2⟩
  rcases utf8_step (a := a) (by omega) with ⟨a', e1, e2, e3⟩ | e
  · exact .inl ⟨a', e1, ⟨e2.trans h1, by omega⟩, e3⟩
  · exact .inr (by rw [e, h1])
end Go.Vg

/- Comments: which may be, and which bytes they are. -/
namespace Go.Vg

theorem ib_le (s : List UInt8) : Lib.indexByte s 61 ≤ s.length := by
  have := indexByte_lt s 61
  rcases this with h | rfl
  · omega
  · simp [Lib.indexByte]
theorem index_eq (s : List UInt8) : internal_stringslite_Index s [61] = some (Lib.indexByte s 61) := by
  unfold internal_stringslite_Index indexByteF
  rw [show ((([61] : List UInt8).length : Int) == 0) = false from rfl, show ((([61] : List UInt8).length : Int) == 1) = true from rfl]
  simp only [Bool.false_eq_true, if_false, if_true]
  split
  · rename_i h
    have : [61] = s := by simpa using h
    subst this
    rfl
  · rfl
theorem cut_eq {s : List UInt8} (hn : s.length < 1000000000000) : strings_Cut s [61] = some (if 0 ≤ Lib.indexByte s 61 then (s.take (Lib.indexByte s 61).toNat, s.drop ((Lib.indexByte s 61).toNat + 1), true) else (s, [], false)) := by
  unfold strings_Cut internal_stringslite_Cut
  rw [index_eq]
  simp only [Option.bind_some]
  have hle := ib_le s
  have hlt := indexByte_lt s 61
  by_cases h : 0 ≤ Lib.indexByte s 61
  · obtain ⟨i, hi⟩ := Int.eq_ofNat_of_zero_le h
    rw [hi] at hle hlt ⊢
    have hne : i + 1 ≤ s.length := by
      rcases hlt with h | rfl
      · omega
      · simp [Lib.indexByte] at hi
    rw [if_pos (by simp), if_pos (by omega), show (0 : Int) = ((0 : Nat) : Int) from rfl, sub_ok (Nat.zero_le _) (by omega), show W ((i : Int) + (([61] : List UInt8).length : Int)) = ((i + 1 : Nat) : Int) from W_succ (by omega), sub_tail hne]
    simp
  · rw [if_neg (by simpa using h), if_neg h]
    rfl

/-- Is a text a comment? -/
def cmt (s : List UInt8) : Bool := decide (0 < Lib.indexByte s 61) && letterB 32 125 (s.take (Lib.indexByte s 61).toNat) && utfOk s
theorem comment_eq {s : List UInt8} (hn : s.length < 1000000000000) : tags_comment s = some (cmt s) := by
  unfold tags_comment cmt
  rw [cut_eq hn]
  simp only [Option.bind_some]
  have hle := ib_le s
  have hlt := indexByte_lt s 61
  by_cases h : 0 < Lib.indexByte s 61
  · rw [if_pos (by omega : 0 ≤ Lib.indexByte s 61), decide_eq_true h]
    obtain ⟨i, hi⟩ := Int.eq_ofNat_of_zero_le (show 0 ≤ Lib.indexByte s 61 by omega)
    rw [hi] at hle hlt h ⊢
    have hne : i + 1 ≤ s.length := by
      rcases hlt with h | rfl
      · omega
      · simp [Lib.indexByte] at hi
    have h2 : ((s.take i) == ([] : List UInt8)) = false := by
      rw [beq_eq_false_iff_ne]
      intro e
      have := congrArg List.length e
      simp at this
      rcases this with h | h
      · omega
      · rw [h] at hne; simp at hne
    simp only [if_true, Int.toNat_natCast, h2, Bool.not_false, Bool.true_and]
    rw [letters_eq (by simp; omega)]
    simp only [Option.bind_some]
    split
    · rename_i h3
      rw [valid_eq hn, h3]
      rfl
    · rename_i h3
      rw [Bool.not_eq_true] at h3
      rw [h3]
      rfl
  · rw [decide_eq_false h]
    simp only [Bool.false_and]
    by_cases h0 : 0 ≤ Lib.indexByte s 61
    · have : Lib.indexByte s 61 = 0 := by omega
      rw [this]
      rfl
    · rw [if_neg h0]
      rfl

def lineB (s : List UInt8) : List Int := lowB s.length ++ bytesI s
def linesB : List (List UInt8) → List Int
  | [] => []
  | s :: l => lineB s ++ linesB l
theorem linesB_append (a b : List (List UInt8)) : linesB (a ++ b) = linesB a ++ linesB b := by
  induction a with
  | nil => rfl
  | cons s a ih => rw [List.cons_append, linesB, linesB, ih, List.append_assoc]
/-- Comments' bytes. -/
def cBytes (c : tags_Comments) : List Int := lineB c.Vendor ++ lowB c.L.length ++ linesB c.L
def wOk (c : tags_Comments) : Bool := utfOk c.Vendor && c.L.all cmt
theorem lineB_len (s : List UInt8) : (lineB s).length = s.length + 4 := by simp [lineB, lowB_len, bytesI_len]; omega
theorem linesB_take (l : List (List UInt8)) (i : Nat) : (linesB (l.take i)).length ≤ (linesB l).length := by
  have : linesB l = linesB (l.take i) ++ linesB (l.drop i) := by rw [← linesB_append, List.take_append_drop]
  rw [this, List.length_append]
  omega
theorem linesB_ge (l : List (List UInt8)) : 4 * l.length ≤ (linesB l).length := by
  induction l with
  | nil => simp
  | cons s l ih => rw [linesB, List.length_append, lineB_len, List.length_cons]; omega
theorem linesB_mem {l : List (List UInt8)} {s : List UInt8} (h : s ∈ l) : s.length ≤ (linesB l).length := by
  induction l with
  | nil => cases h
  | cons x l ih =>
    rw [linesB, List.length_append, lineB_len]
    rcases List.mem_cons.1 h with rfl | h
    · omega
    · have := ih h; omega
theorem write_eq {c : tags_Comments} (hn : (cBytes c).length < 1000000000000) : tags_Comments_Write c = some (if wOk c = true then (if (cBytes c).length > 16777215 then ([], 21) else (cBytes c, 0)) else ([], 12)) := by
  have hn2 := hn
  unfold cBytes at hn2
  rw [List.length_append, List.length_append, lineB_len, lowB_len] at hn2
  have hge := linesB_ge c.L
  unfold tags_Comments_Write wOk
  rw [valid_eq (by omega)]
  simp only [Option.bind_some]
  cases hv : utfOk c.Vendor with
  | false => simp
  | true =>
    simp only [Bool.not_true, Bool.false_eq_true, if_false, Bool.true_and]
    rw [contains_str (p := cmt) (by omega) (fun s hs => by
      unfold tags_Comments_Write_c1
      rw [comment_eq (by have := linesB_mem hs; omega)]
      rfl)]
    simp only [Option.bind_some]
    cases hl : c.L.all cmt with
    | false => simp
    | true =>
      simp only [Bool.not_true, Bool.false_eq_true, if_false, if_true]
      rw [tags_low_eq, tags_low_eq]
      simp only [Option.bind_some]
      rw [concat_eq (by simp) (by simp [bytesI_len, lowB_len]; omega)]
      simp only [Option.bind_some]
      unfold tags_Comments_Write_K1
      have hflat : [lowB c.Vendor.length, bytesI c.Vendor, lowB c.L.length].flatten = lineB c.Vendor ++ lowB c.L.length := by simp [lineB]
      rw [hflat]
      refine iter_eq (fun a => ∃ i, i ≤ c.L.length ∧ a = ((i : Int), lineB c.Vendor ++ lowB c.L.length ++ linesB (c.L.take i))) (fun a => c.L.length - a.1.toNat) _ ?_ ⟨0, Nat.zero_le _, by simp [linesB]⟩ (lt_ROUNDS (by simp only; omega))
      rintro a ⟨i, hi, rfl⟩
      unfold tags_Comments_Write_L1
      by_cases h : i < c.L.length
      · refine .inl ⟨_, ?_, ⟨i + 1, h, rfl⟩, ?_⟩
        · have ht := linesB_take c.L (i + 1)
          have e : linesB (c.L.take (i + 1)) = linesB (c.L.take i) ++ lineB c.L[i] := by
            rw [take_succ_get h, linesB_append]
            simp [linesB]
          rw [e, List.length_append, lineB_len] at ht
          rw [if_pos (by simpa using h), idx_ok (List.getElem?_eq_getElem h)]
          simp only [Option.bind_some]
          rw [tags_low_eq]
          simp only [Option.bind_some]
          rw [app_ok (by simp only [List.length_append, lineB_len, lowB_len]; omega)]
          simp only [Option.bind_some]
          rw [app_ok (by simp only [List.length_append, lineB_len, lowB_len, bytesI_len]; omega)]
          simp only [Option.bind_some]
          rw [W_succ (by omega), e]
          simp [lineB]
        · simp only [Int.toNat_natCast]
          omega
      · refine .inr ?_
        have : i = c.L.length := by omega
        subst this
        rw [if_neg (by simp), List.take_length]
        unfold tags_Comments_Write_K2
        rw [full_eq]
        simp only [cBytes, Option.bind_some, Option.map_some]
        rfl
/-- Few comments. -/
def fewP (c : tags_Comments) : Prop := (∀ s, s ∈ c.L → s.length ≤ 200) ∧ c.L.length ≤ 20 ∧ c.Vendor.length ≤ 200
theorem linesB_small {l : List (List UInt8)} (h : ∀ s, s ∈ l → s.length ≤ 200) : (linesB l).length ≤ 204 * l.length := by
  induction l with
  | nil => simp [linesB]
  | cons s l ih =>
    have h1 := h s (List.mem_cons_self ..)
    have h2 := ih fun x hx => h x (List.mem_cons_of_mem _ hx)
    rw [linesB, List.length_append, lineB_len, List.length_cons]
    omega
theorem few_small {c : tags_Comments} (h : fewP c) : (cBytes c).length ≤ 5000 := by
  have := linesB_small h.1
  have h2 := h.2.1
  have h3 := h.2.2
  unfold cBytes
  rw [List.length_append, List.length_append, lineB_len, lowB_len]
  omega
theorem few_eq {c : tags_Comments} (hn : c.L.length ≤ 9223372036854775807) : ∃ b, jetsamlaw13_few c = some b ∧ (b = true → fewP c) := by
  unfold jetsamlaw13_few
  obtain ⟨r, h1, h2⟩ := find_iter (l := c.L) (fun x => decide (x.length > 200)) (fun _ => false) (decide (c.L.length ≤ 20) && decide (c.Vendor.length ≤ 200)) (jetsamlaw13_few_L1 c) (by omega) (fun i hi => by
    unfold jetsamlaw13_few_L1
    rw [if_pos (by simpa using hi), idx_ok (List.getElem?_eq_getElem hi)]
    simp only [Option.bind_some, decide_eq_true_eq]
    by_cases h : (c.L[i]).length > 200
    · rw [if_pos (by omega), if_pos h]; rfl
    · rw [if_neg (by omega), if_neg h]) (by
    unfold jetsamlaw13_few_L1
    rw [if_neg (by simp)]
    unfold jetsamlaw13_few_K1
    by_cases h : c.L.length ≤ 20
    · rw [if_pos (by simp; omega), decide_eq_true h]
      simp
      omega
    · rw [if_neg (by simp; omega), decide_eq_false h]
      rfl)
  refine ⟨r, h1, fun hr => ?_⟩
  subst hr
  rcases h2 with ⟨e, e2⟩ | ⟨_, _, _, e⟩
  · simp only [Eq.comm (a := true), Bool.and_eq_true, decide_eq_true_eq] at e2
    refine ⟨fun s hs => ?_, e2.1, e2.2⟩
    have := List.all_eq_true.1 e s hs
    simpa using this
  · cases e
end Go.Vg

/- Comments read. -/
namespace Go.Vg

/-- May a text be read here? -/
def lineOk (b : List Int) : Prop := 4 ≤ b.length ∧ lowN (b.take 4) + 4 ≤ b.length
instance (b : List Int) : Decidable (lineOk b) := inferInstanceAs (Decidable (_ ∧ _))
def lineT (b : List Int) : List UInt8 := bstr ((b.drop 4).take (lowN (b.take 4)))
def lineR (b : List Int) : List Int := b.drop (4 + lowN (b.take 4))
theorem line_is {b : List Int} (hb : isB b) (h : lineOk b) : b = lineB (lineT b) ++ lineR b := by
  have e1 : lowB (lineT b).length = b.take 4 := by
    unfold lineT
    rw [bstr_len, List.length_take, List.length_drop, Nat.min_eq_left (by have := h.2; omega), lowB_lowN (isB_take hb 4) (by have := h.1; simp; omega)]
  unfold lineB
  rw [e1]
  unfold lineT lineR
  rw [bytesI_bstr (isB_take (isB_drop hb _) _), List.append_assoc, ← List.drop_drop, List.take_append_drop, List.take_append_drop]
theorem lineB_at {s : List UInt8} {r : List Int} (hs : s.length < 4294967296) : lineOk (lineB s ++ r) ∧ lineT (lineB s ++ r) = s ∧ lineR (lineB s ++ r) = r := by
  have e4 : (lineB s ++ r).take 4 = lowB s.length := by
    unfold lineB
    rw [List.append_assoc, List.take_left' (lowB_len _)]
  have d4 : (lineB s ++ r).drop 4 = bytesI s ++ r := by
    unfold lineB
    rw [List.append_assoc, List.drop_left' (lowB_len _)]
  unfold lineOk lineT lineR
  rw [e4, lowN_lowB hs, ← List.drop_drop, d4]
  refine ⟨⟨by rw [List.length_append, lineB_len]; omega, by rw [List.length_append, lineB_len]; omega⟩, ?_, ?_⟩
  · rw [List.take_left' (bytesI_len s), bstr_bytesI]
  · rw [List.drop_left' (bytesI_len s)]
theorem isB_lineR {b : List Int} (hb : isB b) : isB (lineR b) := isB_drop hb _
theorem text_yes {b : List Int} {bad : Bool} (hb : isB b) (h : lineOk b) : tags_reader_text ⟨b, false, bad⟩ = some (lineT b, lineR b, false) := text_ok h.1 hb rfl h.2 rfl
theorem text_no {b : List Int} {bad : Bool} (hb : isB b) (h : ¬ lineOk b) : tags_reader_text ⟨b, false, bad⟩ = some ([], [], true) :=
  text_end hb (fun h => nomatch h) (by
    unfold lineOk at h
    simp only
    omega)

/-- So many texts, one behind the other. -/
def readL : Nat → List Int → Option (List (List UInt8) × List Int)
  | 0, b => some ([], b)
  | k + 1, b => if lineOk b then (readL k (lineR b)).map (fun r => (lineT b :: r.1, r.2)) else none
theorem readL_is : ∀ {k : Nat} {b : List Int} {l : List (List UInt8)} {r : List Int}, isB b → readL k b = some (l, r) → b = linesB l ++ r ∧ l.length = k ∧ isB r
  | 0, b, l, r, hb, h => by
    cases h
    exact ⟨rfl, rfl, hb⟩
  | k + 1, b, l, r, hb, h => by
    unfold readL at h
    split at h
    · rename_i hk
      obtain ⟨⟨l', r'⟩, h1, h2⟩ := Option.map_eq_some_iff.1 h
      cases h2
      obtain ⟨e1, e2, e3⟩ := readL_is (isB_lineR hb) h1
      refine ⟨?_, by simp [e2], e3⟩
      rw [linesB, List.append_assoc, ← e1]
      exact line_is hb hk
    · cases h
theorem readL_linesB : ∀ {l : List (List UInt8)} {r : List Int}, (∀ s, s ∈ l → s.length < 4294967296) → readL l.length (linesB l ++ r) = some (l, r)
  | [], r, _ => rfl
  | s :: l, r, h => by
    obtain ⟨h1, h2, h3⟩ := lineB_at (r := linesB l ++ r) (h s (List.mem_cons_self ..))
    rw [List.length_cons, readL, linesB, List.append_assoc, if_pos h1, h2, h3, readL_linesB fun x hx => h x (List.mem_cons_of_mem _ hx)]
    rfl

/-- What Write answers. -/
def writeV (c : tags_Comments) : List Int × Int := if wOk c = true then (if (cBytes c).length > 16777215 then ([], 21) else (cBytes c, 0)) else ([], 12)
def noC : tags_Comments := ⟨[], []⟩
/-- What is answered at the end. -/
def endC (v : List UInt8) (l : List (List UInt8)) (rest : List Int) : tags_Comments × Int :=
  if rest ≠ [] then (noC, 12) else if (writeV ⟨v, l⟩).2 ≠ 0 then (noC, (writeV ⟨v, l⟩).2) else (⟨v, l⟩, 0)
theorem K1_end {r1 : List UInt8 × List Int × Bool} {b : List Int} {l : List (List UInt8)} : tags_ReadComments_K1 r1 (b, true, l) = some (noC, 11) := rfl
theorem K1_ok {r1 : List UInt8 × List Int × Bool} {b : List Int} {l : List (List UInt8)} (h : b = [] → (cBytes ⟨r1.1, l⟩).length < 1000000000000) : tags_ReadComments_K1 r1 (b, false, l) = some (endC r1.1 l b) := by
  unfold tags_ReadComments_K1 tags_reader_over endC
  simp only [Bool.false_eq_true, if_false]
  by_cases hb : b = []
  · subst hb
    rw [if_neg (by simp)]
    simp only [Option.bind_some]
    rw [if_neg (by decide), write_eq (h rfl), if_neg (by simp : ¬ (([] : List Int) ≠ []))]
    simp only [Option.bind_some]
    change (if ((writeV ⟨r1.1, l⟩).2 != 0) = true then some (noC, (writeV ⟨r1.1, l⟩).2) else some (⟨r1.1, l⟩, 0)) = _
    by_cases h0 : (writeV ⟨r1.1, l⟩).2 = 0
    · rw [if_neg (by simp [h0]), if_neg (by simp [h0])]
    · rw [if_pos (by simp [h0]), if_pos h0]
  · rw [if_pos (by simp only [decide_eq_true_eq]; have := List.length_pos_iff.2 hb; omega)]
    simp only [Option.bind_some]
    rw [if_pos (by decide), if_pos hb]
    rfl

/-- What ReadComments answers. -/
def readC (b : List Int) : tags_Comments × Int :=
  if lineOk b ∧ 4 ≤ (lineR b).length then
    match readL (lowN ((lineR b).take 4)) ((lineR b).drop 4) with
    | none => (noC, 11)
    | some (l, r) => endC (lineT b) l r
  else (noC, 11)
theorem readC_fail (r1 : List UInt8 × List Int × Bool) : iter (tags_ReadComments_L1 r1 (0, [], true)) (0, [], true, []) = some (noC, 11) := by
  refine iter_eq (fun a => a = (0, [], true, [])) (fun _ => 0) _ ?_ rfl (lt_ROUNDS (Nat.zero_le _))
  rintro a rfl
  refine .inr ?_
  unfold tags_ReadComments_L1
  rw [if_neg (by simp), K1_end]
  rfl
theorem readC_loop {v : List UInt8} {x : List Int} {m : Nat} {b0 : List Int} {r2 : Int × List Int × Bool} (hr21 : r2.1 = (m : Int)) (hm2 : m < 4294967296) (hb3 : isB b0) (hlen : v.length + 8 + b0.length < 100000000000) :
    iter (tags_ReadComments_L1 (v, x, false) r2) (0, b0, false, []) = some (match readL m b0 with | none => (noC, 11) | some (l, r) => endC v l r) := by
  refine iter_eq (fun a => ∃ (i : Nat) (b' : List Int) (acc : List (List UInt8)), i ≤ m ∧ a = ((i : Int), b', false, acc) ∧ isB b' ∧ (linesB acc).length + b'.length ≤ b0.length ∧
    (match readL (m - i) b' with | none => (noC, 11) | some (l, r) => endC v (acc ++ l) r) = (match readL m b0 with | none => (noC, 11) | some (l, r) => endC v l r))
    (fun a => m - a.1.toNat) _ ?_ ⟨0, b0, [], Nat.zero_le _, rfl, hb3, by simp [linesB], rfl⟩ (lt_ROUNDS (by simp only; omega))
  rintro a ⟨i, b', acc, hi, rfl, hb', hl', hG⟩
  have hacc := linesB_ge acc
  rw [← hG]
  clear hG
  unfold tags_ReadComments_L1
  rw [hr21]
  by_cases h : i < m
  · rw [if_pos (by simpa using h)]
    obtain ⟨k, hk⟩ : ∃ k, m - i = k + 1 := ⟨m - i - 1, by omega⟩
    rw [hk, readL]
    by_cases h3 : lineOk b'
    · rw [if_pos h3, text_yes hb' h3, Option.bind_some, if_neg (show ¬ (false = true) from Bool.false_ne_true), app_ok (by simp only [List.length_singleton]; omega), Option.bind_some, W_succ (by omega)]
      have hbl' := congrArg List.length (line_is hb' h3)
      rw [List.length_append, lineB_len] at hbl'
      refine .inl ⟨_, rfl, ⟨i + 1, lineR b', acc ++ [lineT b'], h, rfl, isB_lineR hb', ?_, ?_⟩, ?_⟩
      · rw [linesB_append]
        simp only [linesB, List.append_nil, List.length_append, lineB_len]
        omega
      · rw [show m - (i + 1) = k by omega]
        cases readL k (lineR b') with
        | none => rfl
        | some r => simp
      · simp only [Int.toNat_natCast]
        omega
    · rw [if_neg h3, text_no hb' h3, Option.bind_some, if_pos rfl, K1_end]
      exact .inr rfl
  · have : i = m := by omega
    subst this
    rw [if_neg (by simp), Nat.sub_self, readL]
    simp only [List.append_nil]
    rw [K1_ok]
    · exact .inr rfl
    · intro _
      unfold cBytes
      simp only [List.length_append, lineB_len, lowB_len]
      omega
theorem readC_of {b : List Int} {r1 : List UInt8 × List Int × Bool} {r2 : Int × List Int × Bool} {A : tags_Comments × Int} (h1 : tags_reader_text ⟨b, false, false⟩ = some r1) (h2 : tags_reader_low ⟨r1.2.1, r1.2.2, false⟩ = some r2)
    (h3 : iter (tags_ReadComments_L1 r1 r2) (0, r2.2.1, r2.2.2, []) = some A) : tags_ReadComments b = some A := by
  unfold tags_ReadComments
  rw [h1, Option.bind_some, h2, Option.bind_some, h3]
theorem readC_eq {b : List Int} (hb : isB b) (hn : b.length < 100000000000) : tags_ReadComments b = some (readC b) := by
  by_cases h1 : lineOk b
  · have hb2 := isB_lineR hb
    have hb3 := isB_drop hb2 4
    have hbl := congrArg List.length (line_is hb h1)
    rw [List.length_append, lineB_len] at hbl
    by_cases h2 : 4 ≤ (lineR b).length
    · have hm2 := lowN_lt (isB_take hb2 4)
      rw [List.length_take, Nat.min_eq_left h2] at hm2
      have e : readC b = match readL (lowN ((lineR b).take 4)) ((lineR b).drop 4) with
          | none => (noC, 11)
          | some (l, r) => endC (lineT b) l r := if_pos ⟨h1, h2⟩
      rw [e]
      exact readC_of (text_yes hb h1) (low_ok (r := ⟨lineR b, false, false⟩) h2 hb2) (readC_loop (x := lineR b) rfl (by omega) hb3 (by simp only [List.length_drop]; omega))
    · have e : readC b = (noC, 11) := if_neg (fun h => h2 h.2)
      rw [e]
      exact readC_of (text_yes hb h1) (low_end (r := ⟨lineR b, false, false⟩) (by simp only; omega)) (readC_fail _)
  · have e : readC b = (noC, 11) := if_neg (fun h => h1 h.1)
    rw [e]
    exact readC_of (text_no hb h1) (low_end (r := ⟨[], true, false⟩) (by simp)) (readC_fail _)

/-- **Read of Write is the comments.** -/
theorem read_write {c : tags_Comments} (hw : wOk c = true) (hl : (cBytes c).length ≤ 16777215) : readC (cBytes c) = (c, 0) := by
  have hl2 := hl
  unfold cBytes at hl2
  rw [List.length_append, List.length_append, lineB_len, lowB_len] at hl2
  have hge := linesB_ge c.L
  obtain ⟨h1, h2, h3⟩ := lineB_at (s := c.Vendor) (r := lowB c.L.length ++ linesB c.L) (by omega)
  have hw2 : writeV c = (cBytes c, 0) := by
    unfold writeV
    rw [if_pos hw, if_neg (by omega)]
  unfold readC
  have e : cBytes c = lineB c.Vendor ++ (lowB c.L.length ++ linesB c.L) := by rw [cBytes, List.append_assoc]
  rw [← e] at h1 h2 h3
  rw [h3, h2, if_pos ⟨h1, by rw [List.length_append, lowB_len]; omega⟩, List.take_left' (lowB_len _), List.drop_left' (lowB_len _), lowN_lowB (by omega)]
  have := readL_linesB (l := c.L) (r := []) (fun s hs => by have := linesB_mem hs; omega)
  rw [List.append_nil] at this
  rw [this]
  unfold endC
  simp only [ne_eq, not_true, if_false]
  rw [show (⟨c.Vendor, c.L⟩ : tags_Comments) = c from rfl, hw2]
  simp
/-- **Write of Read is the bytes.** -/
theorem write_read {b : List Int} (hb : isB b) (h : (readC b).2 = 0) : cBytes (readC b).1 = b ∧ writeV (readC b).1 = (b, 0) := by
  revert h
  unfold readC
  split
  · rename_i hk
    split
    · intro h; cases h
    · rename_i l r hr
      have hb2 := isB_lineR hb
      obtain ⟨e1, e2, e3⟩ := readL_is (isB_drop hb2 4) hr
      unfold endC
      intro h
      by_cases hr0 : r = []
      · subst hr0
        simp only [ne_eq, not_true, if_false] at h ⊢
        by_cases hw : (writeV ⟨lineT b, l⟩).2 = 0
        · rw [if_neg (by simp [hw])]
          have hc : cBytes ⟨lineT b, l⟩ = b := by
            unfold cBytes
            simp only
            rw [e2, lowB_lowN (isB_take hb2 4) (by have := hk.2; simp; omega), List.append_assoc]
            rw [List.append_nil] at e1
            rw [← e1, List.take_append_drop]
            exact (line_is hb hk.1).symm
          refine ⟨hc, ?_⟩
          unfold writeV at hw ⊢
          rw [hc] at hw ⊢
          by_cases g1 : wOk ⟨lineT b, l⟩ = true
          · rw [if_pos g1] at hw ⊢
            by_cases g2 : b.length > 16777215
            · rw [if_pos g2] at hw; cases hw
            · rw [if_neg g2]
          · rw [if_neg g1] at hw; cases hw
        · rw [if_pos hw] at h
          exact absurd h hw
      · rw [if_pos hr0] at h
        cases h
  · intro h; cases h
end Go.Vg

/- The document's answer: which texts are UTF-8. -/
namespace Go.Vg

def isCont (b : UInt8) : Bool := decide (128 ≤ b.toNat) && decide (b.toNat ≤ 191)
def contV (v : Nat) (l : List UInt8) : Nat := l.foldl (fun v b => 64 * v + b.toNat - 128) v
theorem contV_snoc (v : Nat) (l : List UInt8) (b : UInt8) : contV v (l ++ [b]) = 64 * contV v l + b.toNat - 128 := by simp [contV]
theorem contV_lt {v : Nat} : ∀ (l : List UInt8), v < 128 → contV v l < 128 * 256 ^ l.length := fun l hv => by
  refine snoc_ind (P := fun l => contV v l < 128 * 256 ^ l.length) (by simpa [contV] using hv) (fun l b ih => ?_) l
  rw [contV_snoc, List.length_append, List.length_singleton, Nat.pow_succ]
  have := b.toNat_lt
  have h : 1 ≤ 256 ^ l.length := Nat.pow_pos (by decide)
  omega
theorem drop_get {α : Type} {s : List α} {i j : Nat} : (s.drop i)[j]? = s[i + j]? := by rw [List.getElem?_drop]
theorem cont_loop {s ds : List UInt8} {i n v0 : Nat} {least : Int} (hi : i < 1000000000000) (hds : (s.drop (i + 1)).take ds.length = ds) (hn : ds.length + 1 = n) (hn4 : n ≤ 4) (hv : v0 < 128) :
    iter (jetsamref13_Text_L2 s (i : Int) ((n : Int), least)) ((v0 : Int), 1) = if ds.all isCont = true then jetsamref13_Text_K4 (i : Int) ((n : Int), least) (contV v0 ds : Int) else some (.inr false) := by
  have key : ∀ a : Int × Int, (∃ j : Nat, j ≤ ds.length ∧ a = ((contV v0 (ds.take j) : Int), ((j + 1 : Nat) : Int)) ∧ (ds.take j).all isCont = true) →
      (∃ a', jetsamref13_Text_L2 s (i : Int) ((n : Int), least) a = some (.inl a') ∧ (∃ j : Nat, j ≤ ds.length ∧ a' = ((contV v0 (ds.take j) : Int), ((j + 1 : Nat) : Int)) ∧ (ds.take j).all isCont = true) ∧ 10 - a'.2.toNat < 10 - a.2.toNat) ∨
      jetsamref13_Text_L2 s (i : Int) ((n : Int), least) a = (if ds.all isCont = true then jetsamref13_Text_K4 (i : Int) ((n : Int), least) (contV v0 ds : Int) else some (.inr false)).map .inr := by
    rintro a ⟨j, hj, rfl, hall⟩
    unfold jetsamref13_Text_L2
    by_cases h : j < ds.length
    · have hg : s[i + (j + 1)]? = some ds[j] := by
        have h1 : ((s.drop (i + 1)).take ds.length)[j]? = ds[j]? := by rw [hds]
        rw [List.getElem?_take_of_lt h, drop_get, List.getElem?_eq_getElem h] at h1
        rw [show i + (j + 1) = i + 1 + j by omega]
        exact h1
      rw [if_pos (by simp only [decide_eq_true_eq]; omega)]
      have e1 : W ((i : Int) + ((j + 1 : Nat) : Int)) = ((i + (j + 1) : Nat) : Int) := W_add (by omega)
      simp only [e1, idx_ok hg, Option.bind_some]
      have hb := (ds[j]).toNat_lt
      by_cases c1 : (ds[j]).toNat < 128
      · rw [if_pos (by simp only [decide_eq_true_eq]; omega)]
        refine .inr ?_
        rw [if_neg]
        · rfl
        · intro h2
          have := List.all_eq_true.1 h2 ds[j] (List.getElem_mem h)
          simp only [isCont, Bool.and_eq_true, decide_eq_true_eq] at this
          omega
      · rw [if_neg (by simp only [decide_eq_true_eq]; omega)]
        by_cases c2 : (ds[j]).toNat > 191
        · rw [if_pos (by simp only [decide_eq_true_eq]; omega)]
          refine .inr ?_
          rw [if_neg]
          · rfl
          · intro h2
            have := List.all_eq_true.1 h2 ds[j] (List.getElem_mem h)
            simp only [isCont, Bool.and_eq_true, decide_eq_true_eq] at this
            omega
        · rw [if_neg (by simp only [decide_eq_true_eq]; omega)]
          have hlt := contV_lt (ds.take j) hv
          rw [List.length_take, Nat.min_eq_left hj] at hlt
          have hp : 256 ^ j ≤ 256 ^ 3 := Nat.pow_le_pow_right (by decide) (by omega)
          refine .inl ⟨_, rfl, ⟨j + 1, h, ?_, ?_⟩, ?_⟩
          · rw [take_succ_get h, contV_snoc]
            rw [W_id (x := 64 * (contV v0 (ds.take j) : Int)) (by omega) (by omega), W_id (x := 64 * (contV v0 (ds.take j) : Int) + _) (by omega) (by omega), W_id (by omega) (by omega), W_succ (by omega)]
            congr 1
            omega
          · rw [all_take_snoc h, hall]
            simp only [isCont, Bool.true_and, Bool.and_eq_true, decide_eq_true_eq]
            omega
          · rw [W_succ (by omega)]
            simp only [Int.toNat_natCast]
            omega
    · have hjd : j = ds.length := by omega
      subst hjd
      rw [List.take_length] at hall ⊢
      rw [if_neg (by simp only [decide_eq_true_eq]; omega), if_pos hall]
      exact .inr rfl
  generalize hR : (if ds.all isCont = true then jetsamref13_Text_K4 (i : Int) ((n : Int), least) (contV v0 ds : Int) else some (.inr false)) = R at key ⊢
  have hsome : ∃ x, R = some x := by
    rw [← hR]
    split
    · unfold jetsamref13_Text_K4
      repeat' split
      all_goals exact ⟨_, rfl⟩
    · exact ⟨_, rfl⟩
  obtain ⟨x, rfl⟩ := hsome
  exact iter_eq _ (fun a => 10 - a.2.toNat) x key ⟨0, Nat.zero_le _, rfl, rfl⟩ (lt_ROUNDS (by simp only; omega))
theorem K4_ok {i n : Nat} {least : Int} {v : Nat} (h : ¬ ((v : Int) < least ∨ v > 1114111 ∨ (55296 ≤ v ∧ v ≤ 57343))) (hi : i + n ≤ 9223372036854775807) : jetsamref13_Text_K4 (i : Int) ((n : Int), least) (v : Int) = some (.inl ((i + n : Nat) : Int)) := by
  unfold jetsamref13_Text_K4
  rw [if_neg, W_add hi]
  intro h2
  apply h
  by_cases c1 : (v : Int) < least
  · exact .inl c1
  · rw [decide_eq_false c1] at h2
    by_cases c2 : v > 1114111
    · exact .inr (.inl c2)
    · rw [decide_eq_false (by omega : ¬ (v : Int) > 1114111)] at h2
      simp at h2
      omega
theorem K4_bad {i n : Nat} {least : Int} {v : Nat} (h : (v : Int) < least ∨ v > 1114111 ∨ (55296 ≤ v ∧ v ≤ 57343)) : jetsamref13_Text_K4 (i : Int) ((n : Int), least) (v : Int) = some (.inr false) := by
  unfold jetsamref13_Text_K4
  rw [if_pos]
  · rfl
  · rcases h with h | h | h
    · rw [decide_eq_true h]; rfl
    · rw [decide_eq_true (by omega : (v : Int) > 1114111)]; split <;> rfl
    · rw [decide_eq_true (by omega : (v : Int) ≥ 55296), decide_eq_true (by omega : (v : Int) ≤ 57343)]
      simp
/-- One sign of the reference. -/
theorem text_step {s : List UInt8} {i : Nat} (hs : s.length < 100000000000) (hi : i < s.length) :
    jetsamref13_Text_L1 s (i : Int) = some (if uLen (s.drop i) = 0 then .inr false else .inl ((i + uLen (s.drop i) : Nat) : Int)) := by
  have hg : s[i]? = some s[i] := List.getElem?_eq_getElem hi
  have hdrop : s.drop i = s[i] :: s.drop (i + 1) := List.drop_eq_getElem_cons hi
  have hdl : (s.drop (i + 1)).length = s.length - (i + 1) := List.length_drop ..
  unfold jetsamref13_Text_L1
  rw [if_pos (by simp only [decide_eq_true_eq]; omega), idx_ok hg, Option.bind_some, hdrop]
  generalize s[i] = c at *
  have hc := c.toNat_lt
  have K2 : ∀ (n v0 : Nat) (least : Int) (ds r : List UInt8), 1 ≤ n → n ≤ 4 → s.drop (i + 1) = ds ++ r → ds.length + 1 = n → v0 < 128 → v0 = (if n > 1 then c.toNat % (128 / 2 ^ n) else c.toNat) →
      jetsamref13_Text_K2 s (i : Int) c ((n : Int), least) = if ds.all isCont = true then jetsamref13_Text_K4 (i : Int) ((n : Int), least) (contV v0 ds : Int) else some (.inr false) := by
    intro n v0 least ds r h1 h4 hd hl hv hve
    have hds : (s.drop (i + 1)).take ds.length = ds := by rw [hd, List.take_left' rfl]
    have hsl : i + n ≤ s.length := by
      have := congrArg List.length hd
      rw [hdl, List.length_append] at this
      omega
    unfold jetsamref13_Text_K2
    simp only
    rw [W_add (by omega), if_neg]
    · by_cases hn : n > 1
      · rw [if_pos (by simp only [decide_eq_true_eq]; omega), need_ok (by simp only [decide_eq_true_eq]; omega)]
        rw [if_pos hn] at hve
        rw [show (128 : Int) = ((128 : Nat) : Int) from rfl, shr_nat (by omega), need_ok]
        · unfold jetsamref13_Text_K3
          rw [show ((c.toNat : Int).tmod ((128 / 2 ^ n : Nat) : Int)) = (v0 : Int) by rw [hve]; rfl]
          exact cont_loop (by omega) hds hl h4 hv
        · have : n = 2 ∨ n = 3 ∨ n = 4 := by omega
          rcases this with rfl | rfl | rfl <;> decide
      · rw [if_neg (by simp only [decide_eq_true_eq]; omega)]
        rw [if_neg hn] at hve
        unfold jetsamref13_Text_K3
        rw [← hve]
        exact cont_loop (by omega) hds hl h4 hv
    · simp
      omega
  have K2bad : ∀ (n : Nat) (least : Int), i + n > s.length → n ≤ 4 → jetsamref13_Text_K2 s (i : Int) c ((n : Int), least) = some (.inr false) := by
    intro n least h h4
    unfold jetsamref13_Text_K2
    simp only
    rw [W_add (by omega), if_pos]
    · rfl
    · simp
      omega
  generalize hrest : s.drop (i + 1) = rest at *
  by_cases a1 : c.toNat < 128
  · rw [if_pos (by simp only [decide_eq_true_eq]; omega)]
    have := K2 1 c.toNat 0 [] rest (by decide) (by decide) rfl rfl a1 rfl
    rw [show ((1 : Int), (0 : Int)) = (((1 : Nat) : Int), (0 : Int)) from rfl, this, if_pos (show ([] : List UInt8).all isCont = true from rfl)]
    have hu : uLen (c :: rest) = 1 := by simp [uLen, a1]
    rw [hu, if_neg (by decide)]
    exact K4_ok (by simp [contV]; omega) (by omega)
  · rw [if_neg (by simp only [decide_eq_true_eq]; omega)]
    have hu : uLen (c :: rest) = if (uCls c.toNat).1 = 2 then (if contB (c :: rest) 1 (uCls c.toNat).2.1 (uCls c.toNat).2.2 = true then 2 else 0)
          else if (uCls c.toNat).1 = 3 then (if contB (c :: rest) 1 (uCls c.toNat).2.1 (uCls c.toNat).2.2 = true ∧ contB (c :: rest) 2 128 191 = true then 3 else 0)
          else if (uCls c.toNat).1 = 4 then (if contB (c :: rest) 1 (uCls c.toNat).2.1 (uCls c.toNat).2.2 = true ∧ contB (c :: rest) 2 128 191 = true ∧ contB (c :: rest) 3 128 191 = true then 4 else 0)
          else 0 := by
      simp only [uLen, if_neg a1]
    by_cases r2 : 194 ≤ c.toNat ∧ c.toNat < 224
    · rw [if_pos (by simp; omega)]
      have hcl : uCls c.toNat = (2, 128, 191) := by unfold uCls; rw [if_neg (by omega), if_pos (by omega)]
      rw [hcl, if_pos rfl] at hu
      simp only at hu
      rw [show ((2 : Int), (128 : Int)) = (((2 : Nat) : Int), (128 : Int)) from rfl]
      match rest, hrest, hdl with
      | [], hrest, hdl =>
        rw [K2bad 2 128 (by simp at hdl; omega) (by decide), hu, contB_none (by simp)]
        rfl
      | d :: r, hrest, hdl =>
        have hd := d.toNat_lt
        rw [K2 2 (c.toNat % 32) 128 [d] r (by decide) (by decide) rfl rfl (by omega) (by rw [if_pos (by decide)])]
        rw [contB_some (b := d) rfl] at hu
        by_cases c1 : 128 ≤ d.toNat ∧ d.toNat ≤ 191
        · rw [decide_eq_true c1.1, decide_eq_true c1.2] at hu
          rw [hu, if_pos (by simp [isCont, c1.1, c1.2]), K4_ok (by simp only [contV, List.foldl_cons, List.foldl_nil]; omega) (by omega)]
          rfl
        · rw [if_neg (by simp; omega)] at hu
          rw [hu, if_neg (by simp [isCont]; omega)]
          rfl
    · rw [if_neg (by simp; omega)]
      by_cases r3 : 224 ≤ c.toNat ∧ c.toNat < 240
      · rw [if_pos (by simp; omega)]
        obtain ⟨lo, hi', hcl, hlh⟩ : ∃ lo hi', uCls c.toNat = (3, lo, hi') ∧ (c.toNat = 224 ∧ lo = 160 ∧ hi' = 191 ∨ c.toNat = 237 ∧ lo = 128 ∧ hi' = 159 ∨ c.toNat ≠ 224 ∧ c.toNat ≠ 237 ∧ lo = 128 ∧ hi' = 191) := by
          unfold uCls
          by_cases e1 : c.toNat = 224
          · exact ⟨160, 191, by rw [if_neg (by omega), if_neg (by omega), if_pos e1], .inl ⟨e1, rfl, rfl⟩⟩
          · by_cases e2 : c.toNat < 237
            · exact ⟨128, 191, by rw [if_neg (by omega), if_neg (by omega), if_neg e1, if_pos e2], .inr (.inr ⟨e1, by omega, rfl, rfl⟩)⟩
            · by_cases e3 : c.toNat = 237
              · exact ⟨128, 159, by rw [if_neg (by omega), if_neg (by omega), if_neg e1, if_neg e2, if_pos e3], .inr (.inl ⟨e3, rfl, rfl⟩)⟩
              · exact ⟨128, 191, by rw [if_neg (by omega), if_neg (by omega), if_neg e1, if_neg e2, if_neg e3, if_pos (by omega)], .inr (.inr ⟨e1, e3, rfl, rfl⟩)⟩
        rw [hcl, if_neg (by simp), if_pos rfl] at hu
        simp only at hu
        rw [show ((3 : Int), (2048 : Int)) = (((3 : Nat) : Int), (2048 : Int)) from rfl]
        match rest, hrest, hdl with
        | [], hrest, hdl =>
          rw [K2bad 3 2048 (by simp at hdl; omega) (by decide), hu, contB_none (by simp)]
          rfl
        | [d], hrest, hdl =>
          rw [K2bad 3 2048 (by simp at hdl; omega) (by decide), hu, contB_none (i := 2) (by simp)]
          simp
        | d :: e :: r, hrest, hdl =>
          have hd := d.toNat_lt
          have he := e.toNat_lt
          rw [K2 3 (c.toNat % 16) 2048 [d, e] r (by decide) (by decide) rfl rfl (by omega) (by rw [if_pos (by decide)])]
          rw [contB_some (b := d) rfl, contB_some (b := e) (i := 2) rfl] at hu
          by_cases c1 : (128 ≤ d.toNat ∧ d.toNat ≤ 191) ∧ 128 ≤ e.toNat ∧ e.toNat ≤ 191
          · rw [decide_eq_true c1.2.1, decide_eq_true c1.2.2] at hu
            rw [if_pos (by simp [isCont, c1.1.1, c1.1.2, c1.2.1, c1.2.2])]
            by_cases c2 : lo ≤ d.toNat ∧ d.toNat ≤ hi'
            · rw [decide_eq_true c2.1, decide_eq_true c2.2] at hu
              rw [hu, K4_ok (by simp only [contV, List.foldl_cons, List.foldl_nil]; omega) (by omega)]
              rfl
            · rw [if_neg (by simp; omega)] at hu
              rw [hu, K4_bad (by simp only [contV, List.foldl_cons, List.foldl_nil]; omega)]
              rfl
          · rw [if_neg (by simp; omega)] at hu
            rw [hu, if_neg (by simp [isCont]; omega)]
            rfl
      · rw [if_neg (by simp; omega)]
        by_cases r4 : 240 ≤ c.toNat ∧ c.toNat < 245
        · rw [if_pos (by simp; omega)]
          obtain ⟨lo, hi', hcl, hlh⟩ : ∃ lo hi', uCls c.toNat = (4, lo, hi') ∧ (c.toNat = 240 ∧ lo = 144 ∧ hi' = 191 ∨ c.toNat = 244 ∧ lo = 128 ∧ hi' = 143 ∨ c.toNat ≠ 240 ∧ c.toNat ≠ 244 ∧ lo = 128 ∧ hi' = 191) := by
            unfold uCls
            by_cases e1 : c.toNat = 240
            · exact ⟨144, 191, by rw [if_neg (by omega), if_neg (by omega), if_neg (by omega), if_neg (by omega), if_neg (by omega), if_neg (by omega), if_pos e1], .inl ⟨e1, rfl, rfl⟩⟩
            · by_cases e2 : c.toNat < 244
              · exact ⟨128, 191, by rw [if_neg (by omega), if_neg (by omega), if_neg (by omega), if_neg (by omega), if_neg (by omega), if_neg (by omega), if_neg e1, if_pos e2], .inr (.inr ⟨e1, by omega, rfl, rfl⟩)⟩
              · exact ⟨128, 143, by rw [if_neg (by omega), if_neg (by omega), if_neg (by omega), if_neg (by omega), if_neg (by omega), if_neg (by omega), if_neg e1, if_neg e2, if_pos (by omega)], .inr (.inl ⟨by omega, rfl, rfl⟩)⟩
          rw [hcl, if_neg (by simp), if_neg (by simp), if_pos rfl] at hu
          simp only at hu
          rw [show ((4 : Int), (65536 : Int)) = (((4 : Nat) : Int), (65536 : Int)) from rfl]
          match rest, hrest, hdl with
          | [], hrest, hdl =>
            rw [K2bad 4 65536 (by simp at hdl; omega) (by decide), hu, contB_none (by simp)]
            rfl
          | [d], hrest, hdl =>
            rw [K2bad 4 65536 (by simp at hdl; omega) (by decide), hu, contB_none (i := 2) (by simp)]
            simp
          | [d, e], hrest, hdl =>
            rw [K2bad 4 65536 (by simp at hdl; omega) (by decide), hu, contB_none (i := 3) (by simp)]
            simp
          | d :: e :: f :: r, hrest, hdl =>
            have hd := d.toNat_lt
            have he := e.toNat_lt
            have hf := f.toNat_lt
            rw [K2 4 (c.toNat % 8) 65536 [d, e, f] r (by decide) (by decide) rfl rfl (by omega) (by rw [if_pos (by decide)])]
            rw [contB_some (b := d) rfl, contB_some (b := e) (i := 2) rfl, contB_some (b := f) (i := 3) rfl] at hu
            by_cases c1 : (128 ≤ d.toNat ∧ d.toNat ≤ 191) ∧ (128 ≤ e.toNat ∧ e.toNat ≤ 191) ∧ 128 ≤ f.toNat ∧ f.toNat ≤ 191
            · rw [decide_eq_true c1.2.1.1, decide_eq_true c1.2.1.2, decide_eq_true c1.2.2.1, decide_eq_true c1.2.2.2] at hu
              rw [if_pos (by simp [isCont, c1.1.1, c1.1.2, c1.2.1.1, c1.2.1.2, c1.2.2.1, c1.2.2.2])]
              by_cases c2 : lo ≤ d.toNat ∧ d.toNat ≤ hi'
              · rw [decide_eq_true c2.1, decide_eq_true c2.2] at hu
                rw [hu, K4_ok (by simp only [contV, List.foldl_cons, List.foldl_nil]; omega) (by omega)]
                rfl
              · rw [if_neg (by simp; omega)] at hu
                rw [hu, K4_bad (by simp only [contV, List.foldl_cons, List.foldl_nil]; omega)]
                rfl
            · rw [if_neg (by simp; omega)] at hu
              rw [hu, if_neg (by simp [isCont]; omega)]
              rfl
        · rw [if_neg (by simp; omega)]
          have hcl : (uCls c.toNat).1 = 0 := by
            unfold uCls
            by_cases e1 : c.toNat < 194
            · rw [if_pos e1]
            · rw [if_neg e1, if_neg (by omega), if_neg (by omega), if_neg (by omega), if_neg (by omega), if_neg (by omega), if_neg (by omega), if_neg (by omega), if_neg (by omega)]
          rw [hcl, if_neg (by decide), if_neg (by decide), if_neg (by decide)] at hu
          rw [hu]
          rfl
/-- **The reference's Text answers utfOk.** -/
theorem text_eq {s : List UInt8} (hs : s.length < 100000000000) : jetsamref13_Text s = some (utfOk s) := by
  unfold jetsamref13_Text
  refine iter_eq (fun a => ∃ i : Nat, i ≤ s.length ∧ a = (i : Int) ∧ utfOk (s.drop i) = utfOk s) (fun a => s.length - a.toNat) _ ?_ ⟨0, Nat.zero_le _, rfl, rfl⟩ (lt_ROUNDS (by omega))
  rintro a ⟨i, hi, rfl, hu⟩
  by_cases h : i < s.length
  · have hne : s.drop i ≠ [] := by
      intro e
      have := congrArg List.length e
      simp at this
      omega
    rw [text_step hs h, ← hu]
    by_cases h0 : uLen (s.drop i) = 0
    · rw [if_pos h0, utfOk_bad hne h0]
      exact .inr rfl
    · rw [if_neg h0]
      have hle : i + uLen (s.drop i) ≤ s.length := by
        have hd := List.length_drop (i := i) (l := s)
        generalize s.drop i = t at *
        match t, hne with
        | c :: r, _ =>
          have hk : ∀ k, contB (c :: r) k 128 191 = true → k < (c :: r).length := fun k hk => by
            by_cases hk2 : k < (c :: r).length
            · exact hk2
            · rw [contB_none (by omega)] at hk; cases hk
          have hk1 : ∀ k lo hi, contB (c :: r) k lo hi = true → k < (c :: r).length := fun k lo hi hk => by
            by_cases hk2 : k < (c :: r).length
            · exact hk2
            · rw [contB_none (by omega)] at hk; cases hk
          have : uLen (c :: r) ≤ (c :: r).length := by
            simp only [uLen]
            split
            · simp
            · split
              · split
                · rename_i hh; exact hk1 _ _ _ hh
                · exact Nat.zero_le _
              · split
                · split
                  · rename_i hh; exact hk1 _ _ _ hh.2
                  · exact Nat.zero_le _
                · split
                  · split
                    · rename_i hh; exact hk1 _ _ _ hh.2.2
                    · exact Nat.zero_le _
                  · exact Nat.zero_le _
          omega
      refine .inl ⟨_, rfl, ⟨_, hle, rfl, ?_⟩, ?_⟩
      · rw [← List.drop_drop, ← utfOk_more hne rfl h0, hu]
      · simp only [Int.toNat_natCast]
        omega
  · refine .inr ?_
    have hil : i = s.length := by omega
    subst hil
    unfold jetsamref13_Text_L1
    rw [if_neg (by simp), ← hu, List.drop_length]
    rfl
end Go.Vg

/- The document's answer: comments written, and read. -/
namespace Go.Vg

theorem ib_spec : ∀ s : List UInt8, (Lib.indexByte s 61 = -1 ∧ ∀ b, b ∈ s → b ≠ 61) ∨ ∃ k : Nat, k < s.length ∧ Lib.indexByte s 61 = k ∧ s[k]? = some 61 ∧ ∀ b, b ∈ s.take k → b ≠ 61
  | [] => .inl ⟨rfl, fun b hb => by cases hb⟩
  | c :: s => by
    by_cases hc : c = 61
    · subst hc
      exact .inr ⟨0, by simp, by simp [Lib.indexByte], rfl, fun b hb => by cases hb⟩
    · have hcb : (c == 61) = false := by simpa using hc
      rcases ib_spec s with ⟨h1, h2⟩ | ⟨k, h1, h2, h3, h4⟩
      · refine .inl ⟨by simp [Lib.indexByte, hcb, h1], fun b hb => ?_⟩
        rcases List.mem_cons.1 hb with rfl | hb
        · exact hc
        · exact h2 b hb
      · refine .inr ⟨k + 1, by simp; omega, ?_, by simpa using h3, fun b hb => ?_⟩
        · have : ((k : Int) == -1) = false := by simp
          simp [Lib.indexByte, hcb, h2, this]
        · rw [List.take_succ_cons] at hb
          rcases List.mem_cons.1 hb with rfl | hb
          · exact hc
          · exact h4 b hb
theorem ib_first {s : List UInt8} {i : Nat} (h1 : s[i]? = some 61) (h2 : ∀ b, b ∈ s.take i → b ≠ 61) : Lib.indexByte s 61 = i := by
  rcases ib_spec s with ⟨_, h⟩ | ⟨k, k1, k2, k3, k4⟩
  · exact absurd rfl (h 61 (List.mem_of_getElem? h1))
  · rw [k2]
    by_cases hlt : k < i
    · have : s[k]? = (s.take i)[k]? := by rw [List.getElem?_take_of_lt hlt]
      rw [k3] at this
      exact absurd rfl (h2 61 (List.mem_of_getElem? this.symm))
    · by_cases hgt : i < k
      · have : s[i]? = (s.take k)[i]? := by rw [List.getElem?_take_of_lt hgt]
        rw [h1] at this
        exact absurd rfl (k4 61 (List.mem_of_getElem? this.symm))
      · congr 1
        omega
theorem letterB_iff {a b : Int} {s : List UInt8} : letterB a b s = true ↔ ∀ c, c ∈ s → a ≤ c.toNat ∧ (c.toNat : Int) ≤ b := by
  unfold letterB bytesI
  rw [List.all_eq_true]
  simp
theorem rcomment_eq {s : List UInt8} (hs : s.length < 10000000000) : jetsamref13_Comment s = some (if cmt s = true then Lib.indexByte s 61 else -1) := by
  unfold jetsamref13_Comment
  refine iter_eq (fun a => ∃ i : Nat, i ≤ s.length ∧ a = (i : Int) ∧ (∀ b, b ∈ s.take i → b ≠ 61) ∧ letterB 32 125 (s.take i) = true) (fun a => s.length - a.toNat) _ ?_ ⟨0, Nat.zero_le _, rfl, (fun b hb => by cases hb), rfl⟩ (lt_ROUNDS (by omega))
  rintro a ⟨i, hi, rfl, h61, hlet⟩
  unfold jetsamref13_Comment_L1
  by_cases h : i < s.length
  · have hg : s[i]? = some s[i] := List.getElem?_eq_getElem h
    rw [if_pos (by simp only [decide_eq_true_eq]; omega)]
    simp only [idx_ok hg, Option.bind_some]
    by_cases hc : s[i] = 61
    · have hib := ib_first (s := s) (i := i) (by rw [hg, hc]) h61
      rw [if_pos (by rw [hc]; rfl)]
      refine .inr ?_
      unfold cmt
      rw [hib]
      by_cases h0 : i = 0
      · subst h0
        rfl
      · rw [if_neg (by simp; omega), text_eq (by omega), Option.bind_some, decide_eq_true (by omega), Int.toNat_natCast, hlet]
        cases utfOk s with
        | false => rfl
        | true => rfl
    · have hcn : (s[i]).toNat ≠ 61 := fun e => hc (UInt8.toNat_inj.1 e)
      rw [if_neg (by simp; omega)]
      by_cases hl : 32 ≤ (s[i]).toNat ∧ (s[i]).toNat ≤ 125
      · rw [if_neg (by simp only [decide_eq_true_eq]; omega), if_neg (by simp only [decide_eq_true_eq]; omega), W_succ (by omega)]
        refine .inl ⟨_, rfl, ⟨i + 1, h, rfl, ?_, ?_⟩, by simp only [Int.toNat_natCast]; omega⟩
        · intro b hb
          rw [take_succ_get h] at hb
          rcases List.mem_append.1 hb with hb | hb
          · exact h61 b hb
          · simp at hb; rw [hb]; exact hc
        · rw [letterB_iff] at hlet ⊢
          intro b hb
          rw [take_succ_get h] at hb
          rcases List.mem_append.1 hb with hb | hb
          · exact hlet b hb
          · simp at hb; rw [hb]; omega
      · have hcm : cmt s = false := by
          unfold cmt
          rcases ib_spec s with ⟨e, _⟩ | ⟨k, k1, k2, k3, k4⟩
          · rw [e]; rfl
          · have hik : i < k := by
              by_cases e : k < i
              · have : s[k]? = (s.take i)[k]? := by rw [List.getElem?_take_of_lt e]
                rw [k3] at this
                exact absurd rfl (h61 61 (List.mem_of_getElem? this.symm))
              · by_cases e2 : k = i
                · subst e2
                  rw [hg] at k3
                  exact absurd (Option.some.inj k3) hc
                · omega
            rw [k2, Int.toNat_natCast]
            have : letterB 32 125 (s.take k) = false := by
              rw [← Bool.not_eq_true, letterB_iff]
              intro hh
              have := hh s[i] (by
                have : (s.take k)[i]? = some s[i] := by rw [List.getElem?_take_of_lt hik, hg]
                exact List.mem_of_getElem? this)
              omega
            rw [this]
            simp
        rw [hcm]
        by_cases h1 : (s[i]).toNat < 32
        · rw [if_pos (by simp only [decide_eq_true_eq]; omega)]
          exact .inr rfl
        · rw [if_neg (by simp only [decide_eq_true_eq]; omega), if_pos (by simp only [decide_eq_true_eq]; omega)]
          exact .inr rfl
  · have hil : i = s.length := by omega
    subst hil
    rw [if_neg (by simp)]
    refine .inr ?_
    have hcm : cmt s = false := by
      unfold cmt
      rcases ib_spec s with ⟨e, _⟩ | ⟨k, k1, k2, k3, k4⟩
      · rw [e]; rfl
      · rw [List.take_length] at h61
        exact absurd rfl (h61 61 (List.mem_of_getElem? k3))
    rw [hcm]
    rfl

theorem tmodN (n k : Nat) : (n : Int).tmod (k : Int) = ((n % k : Nat) : Int) := rfl
theorem tdivN (n k : Nat) : (n : Int).tdiv (k : Int) = ((n / k : Nat) : Int) := rfl
theorem Low_eq {n : Nat} (h : n < 9223372036854775807) : jetsamref13_Low (n : Int) = some (lowB n) := by
  unfold jetsamref13_Low lowB
  rw [show (256 : Int) = ((256 : Nat) : Int) from rfl, show (65536 : Int) = ((65536 : Nat) : Int) from rfl, show (16777216 : Int) = ((16777216 : Nat) : Int) from rfl, tdivN, tdivN, tdivN]
  rw [W_nat (n := n / 256) (by omega), W_nat (n := n / 65536) (by omega), W_nat (n := n / 16777216) (by omega), tmodN, tmodN, tmodN, tmodN, u8w, u8w, u8w, u8w]
  simp only [Nat.mod_mod]
def rwriteV (c : tags_Comments) : List Int × Int := if wOk c = true then (cBytes c, 0) else ([], 12)
theorem rcomments_eq {v : List UInt8} {l : List (List UInt8)} (hn : (cBytes ⟨v, l⟩).length < 1000000000) : jetsamref13_Comments v l = some (rwriteV ⟨v, l⟩) := by
  have hn2 := hn
  unfold cBytes at hn2
  rw [List.length_append, List.length_append, lineB_len, lowB_len] at hn2
  simp only at hn2
  have hge := linesB_ge l
  unfold jetsamref13_Comments rwriteV wOk
  rw [text_eq (by omega), Option.bind_some]
  cases hv : utfOk v with
  | false => rfl
  | true =>
    rw [if_neg (by simp), Low_eq (by omega), Option.bind_some, app_ok (by simp [lowB_len]), Option.bind_some, app_ok (by simp [lowB_len, bytesI_len]; omega), Option.bind_some, Low_eq (by omega), Option.bind_some, app_ok (by simp [lowB_len, bytesI_len]; omega), Option.bind_some]
    simp only [Bool.true_and, List.nil_append]
    refine iter_eq (fun a => ∃ i, i ≤ l.length ∧ a = ((i : Int), lineB v ++ lowB l.length ++ linesB (l.take i)) ∧ (l.take i).all cmt = true) (fun a => l.length - a.1.toNat) _ ?_ ⟨0, Nat.zero_le _, by simp [linesB, lineB], rfl⟩ (lt_ROUNDS (by simp only; omega))
    rintro a ⟨i, hi, rfl, hall⟩
    unfold jetsamref13_Comments_L1
    by_cases h : i < l.length
    · have hm := linesB_mem (List.getElem_mem h)
      rw [if_pos (by simpa using h)]
      simp only [idx_ok (List.getElem?_eq_getElem h), Option.bind_some]
      rw [rcomment_eq (by omega), Option.bind_some]
      cases hc : cmt l[i] with
      | false =>
        refine .inr ?_
        have : l.all cmt = false := by
          rw [← Bool.not_eq_true, List.all_eq_true]
          intro hh
          have := hh l[i] (List.getElem_mem h)
          rw [hc] at this
          cases this
        rw [this]
        rfl
      | true =>
        have hpos : 0 < Lib.indexByte l[i] 61 := by
          unfold cmt at hc
          simp only [Bool.and_eq_true, decide_eq_true_eq] at hc
          exact hc.1.1
        rw [if_pos rfl, if_neg (by simp only [decide_eq_true_eq]; omega), Low_eq (by omega), Option.bind_some]
        have ht := linesB_take l (i + 1)
        have e : linesB (l.take (i + 1)) = linesB (l.take i) ++ lineB l[i] := by
          rw [take_succ_get h, linesB_append]
          simp [linesB]
        rw [e, List.length_append, lineB_len] at ht
        rw [app_ok (by simp only [List.length_append, lineB_len, lowB_len]; omega), Option.bind_some, app_ok (by simp only [List.length_append, lineB_len, lowB_len, bytesI_len]; omega), Option.bind_some, W_succ (by omega)]
        refine .inl ⟨_, rfl, ⟨i + 1, h, ?_, ?_⟩, by simp only [Int.toNat_natCast]; omega⟩
        · rw [e]
          simp [lineB]
        · rw [all_take_snoc h, hall, hc]
          rfl
    · have hil : i = l.length := by omega
      subst hil
      rw [List.take_length] at hall ⊢
      rw [if_neg (by simp), hall]
      exact .inr rfl
theorem rwriteV_eq {c : tags_Comments} (h : (cBytes c).length ≤ 16777215) : rwriteV c = writeV c := by
  unfold rwriteV writeV
  rw [if_neg (show ¬ (cBytes c).length > 16777215 by omega)]

theorem rlow_eq {b : List Int} {at' : Nat} (hb : isB b) (hn : b.length < 10000000000) (ha : at' ≤ b.length) : jetsamref13_low b (at' : Int) = some (if 4 ≤ (b.drop at').length then (lowN ((b.drop at').take 4) : Int) else -1) := by
  unfold jetsamref13_low
  have hdl : (b.drop at').length = b.length - at' := List.length_drop ..
  rw [W_id (x := (at' : Int) + 4) (by omega) (by omega)]
  by_cases h : 4 ≤ (b.drop at').length
  · rw [if_neg (by simp only [decide_eq_true_eq]; omega), if_pos h, W_id (x := (at' : Int) + 1) (by omega) (by omega), W_id (x := (at' : Int) + 2) (by omega) (by omega), W_id (x := (at' : Int) + 3) (by omega) (by omega)]
    have hb' := isB_drop hb at'
    have hg : ∀ j : Nat, b[at' + j]? = (b.drop at')[j]? := fun j => drop_get.symm
    generalize b.drop at' = t at *
    match t, h with
    | x0 :: x1 :: x2 :: x3 :: r, _ =>
      rw [idx_ok (i := at') (x := x0) (hg 0), Option.bind_some, show (at' : Int) + 1 = ((at' + 1 : Nat) : Int) from rfl, idx_ok (x := x1) (hg 1), Option.bind_some, show (at' : Int) + 2 = ((at' + 2 : Nat) : Int) from rfl, idx_ok (x := x2) (hg 2), Option.bind_some, show (at' : Int) + 3 = ((at' + 3 : Nat) : Int) from rfl, idx_ok (x := x3) (hg 3), Option.bind_some]
      have k0 := hb' x0 (by simp)
      have k1 := hb' x1 (by simp)
      have k2 := hb' x2 (by simp)
      have k3 := hb' x3 (by simp)
      rw [W_id (x := 256 * x1) (by omega) (by omega), W_id (x := 65536 * x2) (by omega) (by omega), W_id (x := 16777216 * x3) (by omega) (by omega), W_id (x := x0 + 256 * x1) (by omega) (by omega), W_id (x := x0 + 256 * x1 + 65536 * x2) (by omega) (by omega), W_id (by omega) (by omega)]
      simp only [List.take_succ_cons, List.take_zero, lowN]
      congr 1
      omega
  · rw [if_pos (by simp only [decide_eq_true_eq]; omega), if_neg h]
end Go.Vg

/- TagsComments. -/
namespace Go.Vg

theorem rread_line {b : List Int} {at' : Nat} (hb : isB b) (hn : b.length < 1000000000) (ha : at' ≤ b.length) (h : lineOk (b.drop at')) :
    jetsamref13_low b (at' : Int) = some (lowN ((b.drop at').take 4) : Int) ∧ at' + 4 + lowN ((b.drop at').take 4) ≤ b.length ∧
    sub b ((at' + 4 : Nat) : Int) ((at' + 4 + lowN ((b.drop at').take 4) : Nat) : Int) = some (((b.drop at').drop 4).take (lowN ((b.drop at').take 4))) ∧
    b.drop (at' + 4 + lowN ((b.drop at').take 4)) = lineR (b.drop at') := by
  have hdl : (b.drop at').length = b.length - at' := List.length_drop ..
  have h2 := h.2
  have h1 := h.1
  refine ⟨by rw [rlow_eq hb (by omega) ha, if_pos h.1], by omega, ?_, ?_⟩
  · rw [sub_ok (by omega) (by omega), List.drop_drop]
    congr 2
    omega
  · unfold lineR
    rw [List.drop_drop]
    congr 1
    omega
/-- No text is to be read here. -/
theorem rread_no {b : List Int} {at' : Nat} (hb : isB b) (hn : b.length < 1000000000) (ha : at' ≤ b.length) (h : ¬ lineOk (b.drop at')) :
    ∃ r, jetsamref13_low b (at' : Int) = some r ∧ (r < 0 ∨ 0 ≤ r ∧ r < 4294967296 ∧ (at' : Int) + 4 + r > b.length) := by
  have hdl : (b.drop at').length = b.length - at' := List.length_drop ..
  rw [rlow_eq hb (by omega) ha]
  by_cases h4 : 4 ≤ (b.drop at').length
  · rw [if_pos h4]
    have hlt := lowN_lt (isB_take (isB_drop hb at') 4)
    rw [List.length_take, Nat.min_eq_left h4] at hlt
    refine ⟨_, rfl, .inr ⟨by omega, by omega, ?_⟩⟩
    unfold lineOk at h
    omega
  · rw [if_neg h4]
    exact ⟨_, rfl, .inl (by decide)⟩
def asR (r : tags_Comments × Int) : List UInt8 × List (List UInt8) × Int := (r.1.Vendor, r.1.L, r.2)
theorem rK1_eq {b : List Int} {v : List UInt8} {l : List (List UInt8)} {at' : Nat} (ha : at' ≤ b.length) (h : b.drop at' = [] → (cBytes ⟨v, l⟩).length ≤ 16777215) :
    jetsamref13_ReadComments_K1 b v ((at' : Int), l) = some (asR (endC v l (b.drop at'))) := by
  unfold jetsamref13_ReadComments_K1 endC
  have hdl : (b.drop at').length = b.length - at' := List.length_drop ..
  by_cases hr : b.drop at' = []
  · have hc := h hr
    rw [hr] at hdl ⊢
    simp at hdl
    rw [if_neg (by simp only [decide_eq_true_eq]; omega), rcomments_eq (by simp only; omega), Option.bind_some, rwriteV_eq hc, if_neg (by simp : ¬ (([] : List Int) ≠ []))]
    generalize hw : writeV ⟨v, l⟩ = w
    by_cases h0 : w.2 = 0
    · rw [if_neg (by simp [h0]), if_neg (by simp [h0])]
      rfl
    · rw [if_pos (by simp [h0]), if_pos h0]
      rfl
  · have := List.length_pos_iff.2 hr
    rw [if_pos (by simp only [decide_eq_true_eq]; omega), if_pos hr]
    rfl
theorem rread_loop {b : List Int} {v : List UInt8} {m a0 : Nat} (hb : isB b) (hn : b.length ≤ 10000000) (hm : m < 4294967296) (ha : a0 ≤ b.length) (hv : v.length + 8 ≤ a0) :
    iter (jetsamref13_ReadComments_L1 b v (m : Int)) ((a0 : Int), 0, []) = some (asR (match readL m (b.drop a0) with | none => (noC, 11) | some (l, r) => endC v l r)) := by
  refine iter_eq (fun a => ∃ (i at' : Nat) (acc : List (List UInt8)), i ≤ m ∧ at' ≤ b.length ∧ a = ((at' : Int), (i : Int), acc) ∧ v.length + 8 + (linesB acc).length ≤ at' ∧
    (match readL (m - i) (b.drop at') with | none => (noC, 11) | some (l, r) => endC v (acc ++ l) r) = (match readL m (b.drop a0) with | none => (noC, 11) | some (l, r) => endC v l r))
    (fun a => m - a.2.1.toNat) _ ?_ ⟨0, a0, [], Nat.zero_le _, ha, rfl, by simp [linesB]; omega, rfl⟩ (lt_ROUNDS (by simp only; omega))
  rintro a ⟨i, at', acc, hi, hat, rfl, hl, hG⟩
  have hacc := linesB_ge acc
  rw [← hG]
  clear hG
  unfold jetsamref13_ReadComments_L1
  by_cases h : i < m
  · rw [if_pos (by simpa using h)]
    obtain ⟨k, hk⟩ : ∃ k, m - i = k + 1 := ⟨m - i - 1, by omega⟩
    rw [hk, readL]
    by_cases h3 : lineOk (b.drop at')
    · obtain ⟨e1, e2, e3, e4⟩ := rread_line hb (by omega) hat h3
      rw [if_pos h3, e1, Option.bind_some]
      generalize hq : lowN ((b.drop at').take 4) = q at *
      have w1 : W ((at' : Int) + 4) = ((at' + 4 : Nat) : Int) := by rw [W_id (by omega) (by omega)]; rfl
      rw [w1, W_add (by omega), if_neg (by simp; omega), e3, Option.bind_some, app_ok (by simp only [List.length_singleton]; omega), Option.bind_some, W_succ (by omega)]
      have hlt : (lineT (b.drop at')).length = q := by
        unfold lineT
        rw [bstr_len, List.length_take, List.length_drop, hq, List.length_drop]
        have := h3.2
        rw [hq, List.length_drop] at this
        omega
      have hlt2 : bstr (((b.drop at').drop 4).take q) = lineT (b.drop at') := by unfold lineT; rw [hq]
      refine .inl ⟨_, rfl, ⟨i + 1, at' + 4 + q, acc ++ [lineT (b.drop at')], h, e2, by rw [hlt2], ?_, ?_⟩, ?_⟩
      · rw [linesB_append]
        simp only [linesB, List.append_nil, List.length_append, lineB_len]
        omega
      · rw [show m - (i + 1) = k by omega, e4]
        cases readL k (lineR (b.drop at')) with
        | none => rfl
        | some r => simp
      · simp only [Int.toNat_natCast]
        omega
    · obtain ⟨r, e1, e2⟩ := rread_no hb (by omega) hat h3
      rw [if_neg h3, e1, Option.bind_some]
      refine .inr ?_
      rw [if_pos]
      · rfl
      · rcases e2 with e2 | ⟨e0, e2, e3⟩
        · rw [decide_eq_true e2]
          rfl
        · rw [decide_eq_false (by omega), W_id (x := (at' : Int) + 4) (by omega) (by omega), W_id (by omega) (by omega)]
          simp
          omega
  · have : i = m := by omega
    subst this
    rw [if_neg (by simp), Nat.sub_self, readL]
    simp only [List.append_nil]
    rw [rK1_eq hat]
    · exact .inr rfl
    · intro _
      unfold cBytes
      simp only [List.length_append, lineB_len, lowB_len]
      omega
theorem rread_eq {b : List Int} (hb : isB b) (hn : b.length ≤ 10000000) : jetsamref13_ReadComments b = some (asR (readC b)) := by
  unfold jetsamref13_ReadComments
  by_cases h1 : lineOk b
  · obtain ⟨e1, e2, e3, e4⟩ := rread_line (at' := 0) hb (by omega) (Nat.zero_le _) h1
    rw [List.drop_zero] at e1 e2 e3 e4
    rw [show (0 : Int) = ((0 : Nat) : Int) from rfl, e1, Option.bind_some]
    have hlT : (lineT b).length = lowN (b.take 4) := by
      unfold lineT
      rw [bstr_len, List.length_take, List.length_drop]
      have := h1.2
      omega
    have hlT2 : bstr ((b.drop 4).take (lowN (b.take 4))) = lineT b := rfl
    generalize hq : lowN (b.take 4) = q at *
    rw [Nat.zero_add] at e2 e3 e4
    have w1 : W (4 + (q : Int)) = ((4 + q : Nat) : Int) := by rw [W_id (by omega) (by omega)]; push_cast; rfl
    rw [w1, if_neg (by simp; omega), show (4 : Int) = ((4 : Nat) : Int) from rfl, e3, Option.bind_some, rlow_eq hb (by omega) e2, Option.bind_some, e4, hlT2]
    by_cases h2 : 4 ≤ (lineR b).length
    · have hm2 := lowN_lt (isB_take (isB_lineR hb) 4)
      rw [List.length_take, Nat.min_eq_left h2] at hm2
      have er : readC b = match readL (lowN ((lineR b).take 4)) ((lineR b).drop 4) with
          | none => (noC, 11)
          | some (l, r) => endC (lineT b) l r := if_pos ⟨h1, h2⟩
      have hll : (lineR b).length = b.length - (4 + q) := by rw [← e4, List.length_drop]
      rw [er, if_pos h2, if_neg (by simp only [decide_eq_true_eq]; omega), W_add (by omega)]
      have := rread_loop (b := b) (v := lineT b) (m := lowN ((lineR b).take 4)) (a0 := 4 + q + 4) hb hn (by omega) (by omega) (by omega)
      rw [← List.drop_drop, e4] at this
      exact this
    · have er : readC b = (noC, 11) := if_neg (fun h => h2 h.2)
      rw [er, if_neg h2, if_pos (by decide)]
      rfl
  · obtain ⟨r, e1, e2⟩ := rread_no (at' := 0) hb (by omega) (Nat.zero_le _) h1
    have er : readC b = (noC, 11) := if_neg (fun h => h1 h.1)
    have e1' : jetsamref13_low b 0 = some r := e1
    rw [e1', Option.bind_some, er, if_pos]
    · rfl
    · rcases e2 with e2 | ⟨e0, e2, e3⟩
      · rw [decide_eq_true e2]
        rfl
      · rw [decide_eq_false (by omega), W_id (by omega) (by omega)]
        simp
        omega

theorem awake_holds : jetsamlaw13_awake = some true := by kernel_rfl
/-- **TagsComments.** -/
theorem tagsComments {c : tags_Comments} {b : List Int} (hb : isB b) (hc : c.L.length ≤ 9223372036854775807) : jetsamlaw13_TagsComments c b = some true := by
  unfold jetsamlaw13_TagsComments
  obtain ⟨f, hf1, hf2⟩ := few_eq hc
  rw [hf1, Option.bind_some, awake_holds]
  by_cases hg : f = true ∧ b.length ≤ 500
  · obtain ⟨g1, g5⟩ := hg
    rw [if_neg (by rw [g1, decide_eq_false (by omega : ¬ (b.length : Int) > 500)]; simp)]
    have hfew := hf2 g1
    have hcl := few_small hfew
    have e3 : tags_Comments_Write c = some (writeV c) := write_eq (by omega)
    have e4 : jetsamref13_Comments c.Vendor c.L = some (rwriteV c) := rcomments_eq (v := c.Vendor) (l := c.L) (by exact Nat.lt_of_le_of_lt hcl (by decide))
    have hwl : (writeV c).1.length < 1000000000000000 := by
      unfold writeV
      split
      · split
        · simp
        · simp only; omega
      · simp
    rw [e3, Option.bind_some, e4, Option.bind_some, rwriteV_eq (by omega), bytes_eq hwl, Option.bind_some, if_neg (by simp), readC_eq hb (by omega), Option.bind_some, rread_eq hb (by omega), Option.bind_some]
    unfold asR
    rw [if_pos (by simp)]
    have hL : (readC b).1.L.length < 1000000000000000 := by
      by_cases h0 : (readC b).2 = 0
      · have := congrArg List.length (write_read hb h0).1
        unfold cBytes at this
        rw [List.length_append, List.length_append] at this
        have := linesB_ge (readC b).1.L
        omega
      · have : (readC b).1 = noC := by
          revert h0
          unfold readC endC
          split
          · split
            · intro _; rfl
            · split
              · intro _; rfl
              · split
                · intro _; rfl
                · intro h; exact absurd rfl h
          · intro _; rfl
        rw [this]
        decide
    rw [texts_eq hL, Option.bind_some, if_pos (by simp)]
    rfl
  · rw [if_pos]
    · rfl
    · by_cases g1 : f = true
      · have g5 : ¬ b.length ≤ 500 := fun g5 => hg ⟨g1, g5⟩
        rw [decide_eq_true (by omega : (b.length : Int) > 500)]
        simp
      · rw [Bool.not_eq_true] at g1
        rw [g1]
        simp
end Go.Vg

/- TagsGets. -/
namespace Go.Vg

theorem fold_eq (b : UInt8) : jetsamlaw13_fold (b.toNat : Int) = some ((foldB b).toNat : Int) := by
  have hb := b.toNat_lt
  unfold jetsamlaw13_fold foldB
  by_cases h : 65 ≤ b.toNat ∧ b.toNat ≤ 90
  · rw [if_pos (by simp; omega), if_pos h, show (b.toNat : Int) + 32 = ((b.toNat + 32 : Nat) : Int) by push_cast; rfl, u8w, UInt8.toNat_add]
    rfl
  · rw [if_neg (by simp; omega), if_neg h]
theorem same_eq {a b : List UInt8} (hn : a.length < 1000000000000) : jetsamlaw13_same a b = some (decide (a.map foldB = b.map foldB)) := by
  unfold jetsamlaw13_same
  by_cases hl : a.length = b.length
  · rw [if_neg (by simp [hl])]
    obtain ⟨r, h1, h2⟩ := find_iter (l := a.zip b) (fun x => decide (foldB x.1 ≠ foldB x.2)) (fun _ => false) true (jetsamlaw13_same_L1 a b) (by simp; omega) (fun i hi => by
      simp only [List.length_zip] at hi
      unfold jetsamlaw13_same_L1
      rw [if_pos (by simp; omega), idx_ok (List.getElem?_eq_getElem (show i < a.length by omega)), idx_ok (List.getElem?_eq_getElem (show i < b.length by omega))]
      simp only [Option.bind_some, List.getElem_zip, decide_eq_true_eq, fold_eq]
      by_cases he : foldB a[i] = foldB b[i]
      · rw [he, if_neg (by simp), if_neg (by simp)]
      · rw [if_pos (by simp only [bne_iff_ne, ne_eq, Int.natCast_inj]; exact fun e => he (UInt8.toNat_inj.1 e)), if_pos he]
        rfl) (by
      unfold jetsamlaw13_same_L1
      rw [if_neg (by simp [hl])]
      rfl)
    rw [h1]
    congr 1
    rcases h2 with ⟨e, rfl⟩ | ⟨e, i, hi, rfl⟩
    · symm
      rw [decide_eq_true_eq]
      apply List.ext_getElem (by simp [hl])
      intro i h3 h4
      simp only [List.length_map] at h3 h4
      have := List.all_eq_true.1 e (a[i], b[i]) (by rw [List.mem_iff_getElem]; exact ⟨i, by simp; omega, by simp⟩)
      simpa using this
    · symm
      rw [decide_eq_false_iff_not]
      intro hm
      rw [← Bool.not_eq_true, List.all_eq_true] at e
      refine e fun x hx => ?_
      obtain ⟨j, hj, rfl⟩ := List.mem_iff_getElem.1 hx
      simp only [List.length_zip] at hj
      have h5 : (a.map foldB)[j]? = (b.map foldB)[j]? := by rw [hm]
      rw [List.getElem?_map, List.getElem?_map, List.getElem?_eq_getElem (show j < a.length by omega), List.getElem?_eq_getElem (show j < b.length by omega)] at h5
      simpa using h5
  · rw [if_pos (by simp; omega)]
    congr 1
    symm
    rw [decide_eq_false_iff_not]
    intro h
    have := congrArg List.length h
    simp at this
    exact hl this
def asc (s : List UInt8) : Prop := ∀ b, b ∈ s → b.toNat < 128
theorem small_eq {s : List UInt8} (h : asc s) (hl : s.length < 1000000000000) : tags_small s = some (s.map foldB) := by
  unfold tags_small mapSmallF
  rw [if_pos ⟨List.all_eq_true.2 fun b hb => by simpa using h b hb, by omega⟩]
  rfl

/-- The values of a name. -/
def keyIs (name s : List UInt8) : Bool := decide ((s.take (Lib.indexByte s 61).toNat).map foldB = name.map foldB)
def getL (name : List UInt8) : List (List UInt8) → List (List UInt8)
  | [] => []
  | s :: l => if keyIs name s = true then s.drop ((Lib.indexByte s 61).toNat + 1) :: getL name l else getL name l
theorem getL_append (name : List UInt8) (a b : List (List UInt8)) : getL name (a ++ b) = getL name a ++ getL name b := by
  induction a with
  | nil => rfl
  | cons s a ih =>
    rw [List.cons_append, getL, getL, ih]
    split <;> rfl
theorem getL_len (name : List UInt8) (l : List (List UInt8)) : (getL name l).length ≤ l.length := by
  induction l with
  | nil => simp [getL]
  | cons s l ih =>
    rw [getL]
    split
    · simp only [List.length_cons]; omega
    · simp only [List.length_cons]; omega
theorem cmt_is {s : List UInt8} (h : cmt s = true) : ∃ k : Nat, Lib.indexByte s 61 = k ∧ 0 < k ∧ k < s.length ∧ asc (s.take k) := by
  unfold cmt at h
  simp only [Bool.and_eq_true, decide_eq_true_eq] at h
  rcases ib_spec s with ⟨e, _⟩ | ⟨k, k1, k2, k3, k4⟩
  · rw [e] at h; exact absurd h.1.1 (by decide)
  · rw [k2] at h
    refine ⟨k, k2, by omega, k1, fun b hb => ?_⟩
    have := letterB_iff.1 h.1.2 b (by simpa using hb)
    omega
theorem get_eq {c : tags_Comments} {name : List UInt8} (hf : fewP c) (hw : c.L.all cmt = true) (hn : asc name) (hnl : name.length ≤ 100) : tags_Comments_Get c name = some (getL name c.L) := by
  have hl20 := hf.2.1
  unfold tags_Comments_Get
  refine iter_eq (fun a => ∃ i, i ≤ c.L.length ∧ a = ((i : Int), getL name (c.L.take i))) (fun a => c.L.length - a.1.toNat) _ ?_ ⟨0, Nat.zero_le _, rfl⟩ (lt_ROUNDS (by simp only; omega))
  rintro a ⟨i, hi, rfl⟩
  have hgl := getL_len name (c.L.take i)
  rw [List.length_take] at hgl
  unfold tags_Comments_Get_L1
  by_cases h : i < c.L.length
  · have hs := hf.1 _ (List.getElem_mem h)
    have hc := List.all_eq_true.1 hw _ (List.getElem_mem h)
    have e : getL name (c.L.take (i + 1)) = getL name (c.L.take i) ++ getL name [c.L[i]] := by rw [take_succ_get h, getL_append]
    rw [if_pos (by simpa using h), idx_ok (List.getElem?_eq_getElem h), Option.bind_some]
    generalize c.L[i] = s at *
    obtain ⟨k, k1, k2, k3, k4⟩ := cmt_is hc
    have hcut : strings_Cut s [61] = some (s.take k, s.drop (k + 1), true) := by
      rw [cut_eq (by omega), k1, if_pos (Int.natCast_nonneg k)]
      rfl
    have hkey : keyIs name s = decide ((s.take k).map foldB = name.map foldB) := by unfold keyIs; rw [k1]; rfl
    rw [hcut, Option.bind_some, if_pos rfl, small_eq k4 (by simp; omega), Option.bind_some, small_eq hn (by omega), Option.bind_some]
    refine .inl ⟨((i + 1 : Nat), getL name (c.L.take (i + 1))), ?_, ⟨i + 1, h, rfl⟩, by simp only [Int.toNat_natCast]; omega⟩
    rw [e, getL, getL, k1, hkey]
    unfold tags_Comments_Get_K2
    by_cases hq : (s.take k).map foldB = name.map foldB
    · rw [if_pos (by simpa using hq), decide_eq_true hq, if_pos rfl, app_ok (by simp only [List.length_singleton]; omega), Option.bind_some, W_succ (by omega)]
      rfl
    · rw [if_neg (by simpa using hq), decide_eq_false hq, if_neg (by simp), W_succ (by omega), List.append_nil]
  · have hil : i = c.L.length := by omega
    subst hil
    rw [if_neg (by simp), List.take_length]
    exact .inr rfl
theorem concatS_eq {a b : List (List UInt8)} (ha : a.length ≤ 1000) (hb : b.length ≤ 1000) : slices_Concat_sstring_string [a, b] = some (a ++ b) := by
  have s2 : slices_Concat_sstring_string_L1 [a, b] (0, []) = some (.inl (1, a)) := by
    unfold slices_Concat_sstring_string_L1
    rw [if_pos (by simp), show idx [a, b] 0 = some a from rfl, Option.bind_some, app_ok (by simp; omega)]
    rfl
  have s3 : slices_Concat_sstring_string_L1 [a, b] (1, a) = some (.inl (2, a ++ b)) := by
    unfold slices_Concat_sstring_string_L1
    rw [if_pos (by simp), show idx [a, b] 1 = some b from rfl, Option.bind_some, app_ok (by simp only; omega)]
    rfl
  have s4 : slices_Concat_sstring_string_L1 [a, b] (2, a ++ b) = some (.inr (a ++ b)) := rfl
  have hloop : iter (slices_Concat_sstring_string_L1 [a, b]) (0, []) = some (a ++ b) := by
    refine iter_eq (fun x => x = (0, []) ∨ x = (1, a) ∨ x = (2, a ++ b)) (fun x => 2 - x.1.toNat) _ ?_ (.inl rfl) (lt_ROUNDS (by simp))
    rintro x (rfl | rfl | rfl)
    · exact .inl ⟨_, s2, .inr (.inl rfl), by simp⟩
    · exact .inl ⟨_, s3, .inr (.inr rfl), by simp⟩
    · exact .inr s4
  unfold slices_Concat_sstring_string
  have w1 : W ((0 : Int) + (a.length : Int)) = ((a.length : Nat) : Int) := by rw [W_id (by omega) (by omega)]; omega
  have w2 : W ((a.length : Int) + (b.length : Int)) = ((a.length + b.length : Nat) : Int) := W_add (by omega)
  refine iter_eq (fun x => x = (0, 0) ∨ x = ((a.length : Int), 1) ∨ x = (((a.length + b.length : Nat) : Int), 2)) (fun x => 2 - x.2.toNat) _ ?_ (.inl rfl) (lt_ROUNDS (by simp))
  rintro x (rfl | rfl | rfl)
  · refine .inl ⟨((a.length : Int), 1), ?_, .inr (.inl rfl), by simp⟩
    unfold slices_Concat_sstring_string_L2
    rw [if_pos (by simp), show idx [a, b] 0 = some a from rfl, Option.bind_some, w1, if_neg (by simp only [decide_eq_true_eq]; omega)]
    rfl
  · refine .inl ⟨(((a.length + b.length : Nat) : Int), 2), ?_, .inr (.inr rfl), by simp⟩
    unfold slices_Concat_sstring_string_L2
    rw [if_pos (by simp), show idx [a, b] 1 = some b from rfl, Option.bind_some, w2, if_neg (by simp only [decide_eq_true_eq]; omega)]
    rfl
  · refine .inr ?_
    unfold slices_Concat_sstring_string_L2 slices_Concat_sstring_string_K1 growSF
    rw [if_neg (by simp), if_pos ⟨by simp only; omega, by simp only; omega⟩, Option.bind_some, hloop]
    rfl

/-- **TagsGets.** -/
theorem tagsGets {c : tags_Comments} {name : List UInt8} {l : List (List UInt8)} (hc : c.L.length ≤ 9223372036854775807) : jetsamlaw13_TagsGets c name l = some true := by
  unfold jetsamlaw13_TagsGets
  obtain ⟨f, hf1, hf2⟩ := few_eq hc
  rw [hf1, Option.bind_some]
  by_cases hg : f = true ∧ l.length ≤ 20 ∧ name.length ≤ 100
  · obtain ⟨g1, g2, g3⟩ := hg
    rw [if_neg (by rw [g1, decide_eq_false (by omega : ¬ (l.length : Int) > 20), decide_eq_false (by omega : ¬ (name.length : Int) > 100)]; simp)]
    have hfew := hf2 g1
    have hl20 := hfew.2.1
    have hcl := few_small hfew
    -- behind the guard
    have K1 : asc name → jetsamlaw13_TagsGets_K1 c name l () = some true := by
      intro hn
      unfold jetsamlaw13_TagsGets_K1
      have e3 : tags_Comments_Write c = some (writeV c) := write_eq (by omega)
      rw [e3, Option.bind_some]
      by_cases hw : (writeV c).2 = 0
      · rw [if_neg (by simp [hw])]
        have hall : c.L.all cmt = true := by
          unfold writeV at hw
          split at hw
          · rename_i h1
            unfold wOk at h1
            rw [Bool.and_eq_true] at h1
            exact h1.2
          · cases hw
        have K2 : jetsamlaw13_TagsGets_K2 c name l (getL name c.L) = some true := by
          unfold jetsamlaw13_TagsGets_K2 tags_Comments_With
          have hgl := getL_len name c.L
          rw [concatS_eq (by omega) (by omega), Option.bind_some, Option.bind_some, app_ok (by simp; omega), Option.bind_some, List.nil_append, app_ok (by omega), Option.bind_some, get_eq hfew hall hn g3, Option.bind_some, texts_eq (by omega), Option.bind_some, if_pos (by simp), texts_eq (by simp; omega), Option.bind_some, if_pos (by simp), awake_holds]
          rfl
        refine iter_eq (fun a => ∃ i, i ≤ c.L.length ∧ a = ((i : Int), getL name (c.L.take i))) (fun a => c.L.length - a.1.toNat) _ ?_ ⟨0, Nat.zero_le _, rfl⟩ (lt_ROUNDS (by simp only; omega))
        rintro a ⟨i, hi, rfl⟩
        have hgl := getL_len name (c.L.take i)
        rw [List.length_take] at hgl
        unfold jetsamlaw13_TagsGets_L1
        by_cases h : i < c.L.length
        · have hs := hfew.1 _ (List.getElem_mem h)
          have hc := List.all_eq_true.1 hall _ (List.getElem_mem h)
          have e : getL name (c.L.take (i + 1)) = getL name (c.L.take i) ++ getL name [c.L[i]] := by rw [take_succ_get h, getL_append]
          rw [if_pos (by simpa using h)]
          simp only [idx_ok (List.getElem?_eq_getElem h), Option.bind_some]
          generalize c.L[i] = s at *
          obtain ⟨k, k1, k2, k3, k4⟩ := cmt_is hc
          have hkey : keyIs name s = decide ((s.take k).map foldB = name.map foldB) := by unfold keyIs; rw [k1]; rfl
          have hsub : sub s 0 (k : Int) = some (s.take k) := by rw [show (0 : Int) = ((0 : Nat) : Int) from rfl, sub_ok (Nat.zero_le _) (by omega)]; simp
          rw [rcomment_eq (by omega), if_pos hc, k1, Option.bind_some, if_pos (by simp), hsub, Option.bind_some, same_eq (by simp; omega), Option.bind_some]
          refine .inl ⟨((i + 1 : Nat), getL name (c.L.take (i + 1))), ?_, ⟨i + 1, h, rfl⟩, by simp only [Int.toNat_natCast]; omega⟩
          rw [e, getL, getL, k1, hkey]
          unfold jetsamlaw13_TagsGets_K3
          by_cases hq : (s.take k).map foldB = name.map foldB
          · rw [decide_eq_true hq, if_pos rfl, if_pos rfl, W_succ (by omega), sub_tail (by omega), Option.bind_some, app_ok (by simp only [List.length_singleton]; omega), Option.bind_some, W_succ (by omega)]
            rfl
          · rw [decide_eq_false hq, if_neg (by simp), if_neg (by simp), W_succ (by omega), List.append_nil]
        · have hil : i = c.L.length := by omega
          subst hil
          rw [if_neg (by simp), List.take_length, K2]
          exact .inr rfl
      · rw [if_pos (by simp [hw]), awake_holds]
        rfl
    refine iter_eq (fun a => ∃ i : Nat, i ≤ name.length ∧ a = (i : Int) ∧ asc (name.take i)) (fun a => name.length - a.toNat) _ ?_ ⟨0, Nat.zero_le _, rfl, fun b hb => by cases hb⟩ (lt_ROUNDS (by omega))
    rintro a ⟨i, hi, rfl, ha⟩
    unfold jetsamlaw13_TagsGets_L2
    by_cases h : i < name.length
    · rw [if_pos (by simpa using h), idx_ok (List.getElem?_eq_getElem h), Option.bind_some]
      by_cases hq : (name[i]).toNat > 127
      · rw [if_pos (by simp; omega), awake_holds]
        exact .inr rfl
      · rw [if_neg (by simp; omega), W_succ (by omega)]
        refine .inl ⟨_, rfl, ⟨i + 1, h, rfl, fun b hb => ?_⟩, by simp only [Int.toNat_natCast]; omega⟩
        rw [take_succ_get h] at hb
        rcases List.mem_append.1 hb with hb | hb
        · exact ha b hb
        · simp at hb; rw [hb]; omega
    · have hil : i = name.length := by omega
      subst hil
      rw [List.take_length] at ha
      rw [if_neg (by simp), K1 ha]
      exact .inr rfl
  · rw [if_pos, awake_holds]
    · rfl
    · by_cases g1 : f = true
      · rw [g1]
        by_cases g2 : l.length ≤ 20
        · have g5 : ¬ name.length ≤ 100 := fun g5 => hg ⟨g1, g2, g5⟩
          rw [decide_eq_true (by omega : (name.length : Int) > 100)]
          simp
        · rw [decide_eq_true (by omega : (l.length : Int) > 20)]
          simp
      · rw [Bool.not_eq_true] at g1
        rw [g1]
        simp
end Go.Vg
