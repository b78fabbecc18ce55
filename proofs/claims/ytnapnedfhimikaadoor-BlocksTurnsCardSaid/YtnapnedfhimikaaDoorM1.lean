/- Blocks: written, and in order. -/
import Derived.Test.YtnapnedfhimikaaDoorF1
import Derived.KernelRfl
set_option maxRecDepth 4000
set_option linter.all false
set_option linter.unusedVariables false
set_option linter.unusedSimpArgs false
/- Bytes and numbers; blocks written. -/
namespace Go.Vg
open Go
theorem awake12 : jetsamlaw12_awake = some true := by kernel_rfl
theorem anyTake {α : Type} {f : α → Bool} {l : List α} {k : Nat} {x : α} (h : l[k]? = some x) : (l.take (k + 1)).any f = ((l.take k).any f || f x) := by
  rw [List.take_add_one, h]; simp
theorem any_of_take {α : Type} {f : α → Bool} {l : List α} {k : Nat} (h : (l.take k).any f = true) : l.any f = true := by
  rw [List.any_eq_true] at *
  obtain ⟨x, hx, hf⟩ := h
  exact ⟨x, List.mem_of_mem_take hx, hf⟩

end Go.Vg
namespace Go.Vg
open Go

section
variable {α β A B : Type} {f : α → Option (α ⊕ A)} {g : β → Option (β ⊕ B)}
/-- Two loops, round by round. -/
theorem iterN_sim (R : α → β → Prop) (Q : A → B → Prop) (m : α → Nat) (h : ∀ a b, R a b → (∃ a' b', f a = some (.inl a') ∧ g b = some (.inl b') ∧ R a' b' ∧ m a' < m a) ∨ ∃ x y, f a = some (.inr x) ∧ g b = some (.inr y) ∧ Q x y) :
    ∀ (n : Nat) (a : α) (b : β), R a b → m a < n → ∃ x y, iterN f n a = some x ∧ iterN g n b = some y ∧ Q x y
  | 0, a, b, _, hn => by omega
  | n + 1, a, b, hr, hn => by
    rw [iterN_succ, iterN_succ]
    rcases h a b hr with ⟨a', b', h1, h2, h3, h4⟩ | ⟨x, y, h1, h2, h3⟩
    · rw [h1, h2]; exact iterN_sim R Q m h n a' b' h3 (by omega)
    · rw [h1, h2]; exact ⟨x, y, rfl, rfl, h3⟩
theorem iter_sim (R : α → β → Prop) (Q : A → B → Prop) (m : α → Nat) (h : ∀ a b, R a b → (∃ a' b', f a = some (.inl a') ∧ g b = some (.inl b') ∧ R a' b' ∧ m a' < m a) ∨ ∃ x y, f a = some (.inr x) ∧ g b = some (.inr y) ∧ Q x y)
    {a0 : α} {b0 : β} (h0 : R a0 b0) (hm : m a0 < ROUNDS) : ∃ x y, iter f a0 = some x ∧ iter g b0 = some y ∧ Q x y := iterN_sim R Q m h ROUNDS a0 b0 h0 hm
end

def isB (x : Int) : Prop := 0 ≤ x ∧ x < 256
theorem wrap_mod {a b : Int} (h : a % 18446744073709551616 = b % 18446744073709551616) : W a = W b := by
  simp only [W, IntKind.wrap_i64]; omega
theorem or_shl (n x : Int) (hx : isB x) : arD .or .i64 (shD .shl .i64 n 8) x = W (n * 256 + x) := by
  have e1 : shD .shl .i64 n 8 = W (n * 256) := by
    have : (2 : Int) ^ (min (8 : Int).toNat IntKind.i64.bits) = 256 := by decide
    simp only [shD, this]; rfl
  obtain ⟨h0, h1⟩ := hx
  obtain ⟨m, hm⟩ := Int.eq_ofNat_of_zero_le (show 0 ≤ n % 72057594037927936 by omega)
  obtain ⟨y, rfl⟩ := Int.eq_ofNat_of_zero_le h0
  have hA : (BitVec.ofInt 64 (W (n * 256))).toNat = m * 256 := by
    rw [BitVec.toNat_ofInt]
    simp only [W, IntKind.wrap_i64]
    omega
  have hB : (BitVec.ofInt 64 (y : Int)).toNat = y := by rw [BitVec.toNat_ofInt]; omega
  have hor : (m * 256) ||| y = m * 256 + y := by
    have := Nat.shiftLeft_add_eq_or_of_lt (b := y) (i := 8) (by omega) m
    rw [Nat.shiftLeft_eq] at this
    exact this.symm
  show IntKind.i64.wrap ((BitVec.ofInt 64 (shD .shl .i64 n 8) ||| BitVec.ofInt 64 (y : Int)).toNat : Int) = _
  rw [e1, BitVec.toNat_or, hA, hB, hor]
  exact wrap_mod (by omega)

/-- The number that bytes are, of 64 bits. -/
def numW (l : List Int) : Int := l.foldl (fun n x => W (n * 256 + x)) 0
theorem number_eq {l : List Int} (hl : l.length ≤ 1000000) (hb : ∀ x, x ∈ l → isB x) : blocks_number l = some (numW l) := by
  unfold blocks_number
  refine iter_eq (fun a : Int × Int => ∃ k : Nat, a.2 = k ∧ k ≤ l.length ∧ a.1 = numW (l.take k)) (fun a => (l.length - a.2).toNat) _ (fun a ha => ?_) ⟨0, rfl, by omega, rfl⟩ (lt_ROUNDS (by simp only; omega))
  obtain ⟨v, k'⟩ := a
  obtain ⟨k, rfl, hk, rfl⟩ := ha
  simp only [blocks_number_L1]
  by_cases h : k < l.length
  · left
    have e1 : l[k]? = some l[k] := List.getElem?_eq_getElem h
    rw [if_pos (by simpa using h), idx_ok e1, Option.bind_some, or_shl _ _ (hb _ (List.getElem_mem h))]
    refine ⟨_, rfl, ⟨k + 1, ?_, by omega, ?_⟩, ?_⟩
    · simp only; rw [W_id (by omega) (by omega)]; omega
    · rw [List.take_add_one, e1]; simp only [numW, Option.toList_some, List.foldl_append, List.foldl_cons, List.foldl_nil]
    · simp only; rw [W_id (by omega) (by omega)]; omega
  · right
    rw [if_neg (by simpa using h)]
    have : k = l.length := by omega
    subst this
    rw [List.take_length]
    rfl
theorem num3 {x y z : Int} (hx : isB x) (hy : isB y) (hz : isB z) : numW [x, y, z] = x * 65536 + y * 256 + z := by
  unfold isB at *
  simp only [numW, List.foldl_cons, List.foldl_nil]
  rw [W_id (x := 0 * 256 + x) (by omega) (by omega), W_id (x := (0 * 256 + x) * 256 + y) (by omega) (by omega), W_id (by omega) (by omega)]
  omega

theorem bytes_same (l : List Int) (hl : l.length ≤ 1000000) : jetsamlaw11_Bytes l l = some true := by
  unfold jetsamlaw11_Bytes
  rw [if_neg (by simp)]
  refine iter_eq (fun i : Int => ∃ k : Nat, i = k ∧ k ≤ l.length) (fun i => (l.length - i).toNat) _ (fun i hi => ?_) ⟨0, rfl, by omega⟩ (lt_ROUNDS (by omega))
  obtain ⟨k, rfl, hk⟩ := hi
  simp only [jetsamlaw11_Bytes_L1]
  by_cases h : k < l.length
  · left
    have e1 : l[k]? = some l[k] := List.getElem?_eq_getElem h
    rw [if_pos (by simpa using h), idx_ok e1, Option.bind_some, Option.bind_some, if_neg (by simp)]
    refine ⟨_, rfl, ⟨k + 1, ?_, by omega⟩, ?_⟩
    · rw [W_id (by omega) (by omega)]; omega
    · rw [W_id (by omega) (by omega)]; omega
  · right
    rw [if_neg (by simpa using h)]
    rfl
theorem sub_nat {α : Type} {l : List α} {i j : Int} {a b : Nat} (hi : i = a) (hj : j = b) (h : a ≤ b) (h' : b ≤ l.length) : sub l i j = some ((l.drop a).take (b - a)) := by
  subst hi; subst hj; exact sub_ok h h'
theorem three {l : List Int} {k : Nat} (h : k + 3 ≤ l.length) : ∃ x y z, (l.drop k).take 3 = [x, y, z] ∧ l[k]? = some x ∧ l[k + 1]? = some y ∧ l[k + 2]? = some z := by
  have e0 : l[k]? = some l[k] := List.getElem?_eq_getElem (by omega)
  have e1 : l[k + 1]? = some l[k + 1] := List.getElem?_eq_getElem (by omega)
  have e2 : l[k + 2]? = some l[k + 2] := List.getElem?_eq_getElem (by omega)
  refine ⟨_, _, _, ?_, e0, e1, e2⟩
  rw [List.drop_eq_getElem_cons (by omega), List.take_succ_cons, List.drop_eq_getElem_cons (by omega), List.take_succ_cons, List.drop_eq_getElem_cons (by omega), List.take_succ_cons]
  rfl
end Go.Vg

namespace Go.Vg
open Go
theorem plain_eq (l : List blocks_Block) (hl : l.length ≤ 1000000) : jetsamlaw12_Plain l = some (l.map (·.m_Type), l.map (·.Data)) := by
  unfold jetsamlaw12_Plain
  refine iter_eq (fun a : Int × List Int × List (List Int) => ∃ k : Nat, a.1 = k ∧ k ≤ l.length ∧ a.2 = ((l.take k).map (·.m_Type), (l.take k).map (·.Data))) (fun a => (l.length - a.1).toNat) _ (fun a ha => ?_) ⟨0, rfl, by omega, rfl⟩ (lt_ROUNDS (by simp only; omega))
  obtain ⟨k', a⟩ := a
  obtain ⟨k, rfl, hk, rfl⟩ := ha
  simp only [jetsamlaw12_Plain_L1]
  by_cases h : k < l.length
  · left
    have e1 : l[k]? = some l[k] := List.getElem?_eq_getElem h
    rw [if_pos (by simpa using h), idx_ok e1]
    simp only [Option.bind_some]
    rw [app_ok (by simp; omega)]
    simp only [Option.bind_some]
    rw [app_ok (by simp; omega)]
    refine ⟨_, rfl, ⟨k + 1, ?_, by omega, ?_⟩, ?_⟩
    · simp only; rw [W_id (by omega) (by omega)]; omega
    · simp only; rw [List.take_add_one, e1, Option.toList_some, List.map_append, List.map_append]; rfl
    · simp only; rw [W_id (by omega) (by omega)]; omega
  · right
    rw [if_neg (by simpa using h)]
    have : k = l.length := by omega
    subst this
    rw [List.take_length]
    rfl

end Go.Vg
namespace Go.Vg
open Go

theorem iter_n {α A : Type} {f : α → Option (α ⊕ A)} {a : α} {r : A} (n : Nat) (hn : n ≤ 1000000) (h : iterN f n a = some r) : iter f a = some r := iterN_mono (by unfold ROUNDS; omega) h

/-- A number's byte. -/
def byt (n : Int) (s : Nat) : Int := n / 2 ^ s % 256
theorem byt_eq (n : Int) (s : Nat) (hs : s ≤ 64) : IntKind.u8.wrap (shD .shr .i64 n (s : Int)) = byt n s := by
  have e : min (s : Int).toNat IntKind.i64.bits = s := by show min s 64 = s; omega
  simp only [shD, e]
  rw [Int.fdiv_eq_ediv_of_nonneg _ (by exact Int.le_of_lt (Int.pow_pos (by decide))), IntKind.wrap_u8]
  rfl
theorem byt_isB (n : Int) (s : Nat) : isB (byt n s) := by
  unfold isB byt; omega
def hdr (n : Int) : List Int := [byt n 16, byt n 8, byt n 0]
theorem big3 (n : Int) : blocks_big n 3 = some (hdr n) := by
  have h : blocks_big n 3 = some [IntKind.u8.wrap (shD .shr .i64 n (16 : Nat)), IntKind.u8.wrap (shD .shr .i64 n (8 : Nat)), IntKind.u8.wrap (shD .shr .i64 n (0 : Nat))] := by
    unfold blocks_big
    rw [show mks 1 3 (0 : Int) = some [0, 0, 0] from rfl]
    exact iter_n 4 (by omega) rfl
  rw [h, byt_eq _ _ (by omega), byt_eq _ _ (by omega), byt_eq _ _ (by omega)]
  rfl
theorem hdr_num {n : Int} (h0 : 0 ≤ n) (h1 : n < 16777216) : byt n 16 * 65536 + byt n 8 * 256 + byt n 0 = n := by
  show n / 65536 % 256 * 65536 + n / 256 % 256 * 256 + n / 1 % 256 = n
  omega
theorem hdr_of {a b c n : Int} (ha : isB a) (hb : isB b) (hc : isB c) (h : a * 65536 + b * 256 + c = n) : hdr n = [a, b, c] := by
  unfold isB at *
  have e1 : byt n 16 = a := by show n / 65536 % 256 = a; omega
  have e2 : byt n 8 = b := by show n / 256 % 256 = b; omega
  have e3 : byt n 0 = c := by show n / 1 % 256 = c; omega
  simp only [hdr, e1, e2, e3]
theorem hdr_len (n : Int) : (hdr n).length = 3 := rfl

/-- Lists put behind each other. -/
theorem concat_eq (ls : List (List Int)) (hl : ls.length ≤ 1000000) (hn : ls.flatten.length ≤ 140737488355328) : slices_Concat_sbyte_byte ls = some ls.flatten := by
  have htake : ∀ k, (ls.take k).flatten.length ≤ ls.flatten.length := fun k => by
    have : ls.flatten = (ls.take k).flatten ++ (ls.drop k).flatten := by rw [← List.flatten_append, List.take_append_drop]
    rw [this, List.length_append]; omega
  have hsnoc : ∀ k x, ls[k]? = some x → (ls.take (k + 1)).flatten = (ls.take k).flatten ++ x := fun k x h => by
    rw [List.take_add_one, h]; simp
  unfold slices_Concat_sbyte_byte
  refine iter_eq (fun a : Int × Int => ∃ k : Nat, a.2 = k ∧ k ≤ ls.length ∧ a.1 = (ls.take k).flatten.length) (fun a => (ls.length - a.2).toNat) _ (fun a ha => ?_) ⟨0, rfl, by omega, rfl⟩ (lt_ROUNDS (by simp only; omega))
  obtain ⟨v, k'⟩ := a
  obtain ⟨k, rfl, hk, hv⟩ := ha
  simp only at hv
  subst hv
  simp only [slices_Concat_sbyte_byte_L2]
  by_cases h : k < ls.length
  · left
    have e1 : ls[k]? = some ls[k] := List.getElem?_eq_getElem h
    have es := hsnoc k _ e1
    have hs : (ls.take (k + 1)).flatten.length = (ls.take k).flatten.length + ls[k].length := by rw [es, List.length_append]
    have hle := htake (k + 1)
    rw [if_pos (by simpa using h), idx_ok e1]
    simp only [Option.bind_some]
    have hw : W (((ls.take k).flatten.length : Int) + (ls[k].length : Int)) = ((ls.take (k + 1)).flatten.length : Int) := by rw [W_id (by omega) (by omega)]; omega
    rw [hw, if_neg (by simp)]
    refine ⟨_, rfl, ⟨k + 1, ?_, by omega, rfl⟩, ?_⟩
    · simp only; rw [W_id (by omega) (by omega)]; omega
    · simp only; rw [W_id (by omega) (by omega)]; omega
  · right
    rw [if_neg (by simpa using h)]
    have : k = ls.length := by omega
    subst this
    rw [List.take_length]
    have hg : growF (ls.flatten.length : Int) = some [] := by unfold growF; rw [if_pos (by omega)]
    unfold slices_Concat_sbyte_byte_K1
    rw [hg]
    simp only [Option.bind_some]
    refine congrArg (Option.map Sum.inr) (a₂ := some ls.flatten) (iter_eq (fun a : Int × List Int => ∃ k : Nat, a.1 = k ∧ k ≤ ls.length ∧ a.2 = (ls.take k).flatten) (fun a => (ls.length - a.1).toNat) _ (fun a ha => ?_) ⟨0, rfl, by omega, rfl⟩ (lt_ROUNDS (by simp only; omega)))
    obtain ⟨k', v⟩ := a
    obtain ⟨k, rfl, hk, hv⟩ := ha
    simp only at hv
    subst hv
    simp only [slices_Concat_sbyte_byte_L1]
    by_cases h : k < ls.length
    · left
      have e1 : ls[k]? = some ls[k] := List.getElem?_eq_getElem h
      have es := hsnoc k _ e1
      have hs : (ls.take (k + 1)).flatten.length = (ls.take k).flatten.length + ls[k].length := by rw [es, List.length_append]
      have hle := htake (k + 1)
      rw [if_pos (by simpa using h), idx_ok e1]
      simp only [Option.bind_some]
      rw [app_ok (by omega)]
      simp only [Option.bind_some]
      refine ⟨_, rfl, ⟨k + 1, ?_, by omega, es.symm⟩, ?_⟩
      · simp only; rw [W_id (by omega) (by omega)]; omega
      · simp only; rw [W_id (by omega) (by omega)]; omega
    · right
      rw [if_neg (by simpa using h)]
      have : k = ls.length := by omega
      subst this
      rw [List.take_length]
      rfl

/-- A block's bytes; 'm': 128 where it is the last one. -/
def encB (m : Int) (b : blocks_Block) : List Int := (b.m_Type + m) :: (hdr b.Data.length ++ b.Data)
def pre (l : List blocks_Block) : List Int := (l.map (encB 0)).flatten
def good (b : blocks_Block) : Prop := 0 ≤ b.m_Type ∧ b.m_Type < 127 ∧ b.Data.length ≤ 16777215
theorem encB_len (m : Int) (b : blocks_Block) : (encB m b).length = b.Data.length + 4 := by
  simp only [encB, List.length_cons, List.length_append, hdr_len]; omega
theorem pre_snoc {l : List blocks_Block} {k : Nat} {b : blocks_Block} (h : l[k]? = some b) : pre (l.take (k + 1)) = pre (l.take k) ++ encB 0 b := by
  simp only [pre]
  rw [List.take_add_one, h, List.map_append, List.flatten_append]; simp
theorem pre_len : ∀ (l : List blocks_Block), (∀ b, b ∈ l → good b) → (pre l).length ≤ l.length * 16777219
  | [], _ => by simp [pre]
  | b :: r, h => by
    have h1 := pre_len r (fun x hx => h x (List.mem_cons_of_mem _ hx))
    have h2 := (h b (List.mem_cons_self ..)).2.2
    have e : pre (b :: r) = encB 0 b ++ pre r := rfl
    rw [e, List.length_append, encB_len, List.length_cons]
    omega

theorem write_nil : blocks_Write [] = some ([], 20) := rfl
/-- What is written. -/
theorem write_of (m : List blocks_Block) (z : blocks_Block) (hm : m.length ≤ 1000) :
    ∃ r, blocks_Write (m ++ [z]) = some r ∧ ((r = (pre m ++ encB 128 z, 0) ∧ ∀ b, b ∈ m ++ [z] → good b) ∨ (r.2 ≠ 0 ∧ ∃ b, b ∈ m ++ [z] ∧ ¬good b)) := by
  generalize hl : m ++ [z] = l
  have hlen : l.length = m.length + 1 := by rw [← hl]; simp
  have hz : l[m.length]? = some z := by rw [← hl]; simp
  have hmk : ∀ k, k ≤ m.length → l.take k = m.take k := fun k hk => by rw [← hl, List.take_append_of_le_length hk]
  unfold blocks_Write
  rw [if_neg (by rw [beq_iff_eq]; omega)]
  refine iter_of (fun a : List Int × Int => ∃ k : Nat, a.2 = k ∧ k ≤ l.length ∧ (∀ b, b ∈ l.take k → good b) ∧ ((k ≤ m.length ∧ a.1 = pre (l.take k)) ∨ (k = l.length ∧ a.1 = pre m ++ encB 128 z))) (fun a => (l.length - a.2).toNat) _ (fun a ha => ?_) ⟨0, rfl, by omega, by simp, .inl ⟨by omega, rfl⟩⟩ (lt_ROUNDS (by simp only; omega))
  obtain ⟨out, k'⟩ := a
  obtain ⟨k, rfl, hk, hg, ho⟩ := ha
  simp only at ho
  simp only [blocks_Write_L1]
  by_cases h : k < l.length
  case neg =>
    right
    rw [if_neg (by simpa using h)]
    have : k = l.length := by omega
    subst this
    rw [List.take_length] at hg
    rcases ho with ⟨ho, _⟩ | ⟨_, rfl⟩
    · omega
    · exact ⟨_, rfl, .inl ⟨rfl, hg⟩⟩
  have ho : k ≤ m.length ∧ out = pre (l.take k) := by
    rcases ho with ho | ⟨ho, _⟩
    · exact ho
    · omega
  obtain ⟨hkm, rfl⟩ := ho
  have e1 : l[k]? = some l[k] := List.getElem?_eq_getElem h
  have hmem : l[k] ∈ l := List.getElem_mem h
  have wk : W ((k : Int) + 1) = ((k + 1 : Nat) : Int) := by rw [W_id (by omega) (by omega)]; omega
  have wl : W ((l.length : Int) - 1) = (m.length : Int) := by rw [W_id (by omega) (by omega)]; omega
  have hsn := pre_snoc e1
  have hpl := pre_len (l.take k) hg
  have htl : (l.take k).length ≤ 1000 := by rw [List.length_take]; omega
  have hgs : good l[k] → ∀ b, b ∈ l.take (k + 1) → good b := fun hgk b hb => by
    rw [List.take_add_one, e1] at hb
    rcases List.mem_append.1 hb with hb | hb
    · exact hg b hb
    · simp at hb; rw [hb]; exact hgk
  have hbad : ¬good l[k] → ∃ b, b ∈ l ∧ ¬good b := fun hn => ⟨_, hmem, hn⟩
  have hlast : k = m.length → l[k] = z := fun hh => by
    subst hh; rw [e1] at hz; exact Option.some.inj hz
  rw [if_pos (by simpa using h), idx_ok e1]
  simp only [Option.bind_some, wl]
  generalize l[k] = b at *
  by_cases h1 : b.m_Type < 0 ∨ 127 ≤ b.m_Type
  · right
    rw [if_pos (by rcases h1 with h1 | h1 <;> simp [h1])]
    exact ⟨_, rfl, .inr ⟨by simp, hbad (fun hgd => by unfold good at hgd; omega)⟩⟩
  rw [if_neg (by simp; omega)]
  by_cases h2 : 16777215 < b.Data.length
  · right
    rw [if_pos (by simp; omega)]
    exact ⟨_, rfl, .inr ⟨by simp, hbad (fun hgd => by unfold good at hgd; omega)⟩⟩
  rw [if_neg (by simp; omega)]
  have hgk : good b := ⟨by omega, by omega, by omega⟩
  have hcon : ∀ t : Int, isB t → slices_Concat_sbyte_byte [pre (l.take k), [IntKind.u8.wrap t], hdr b.Data.length, b.Data] = some (pre (l.take k) ++ (t :: (hdr b.Data.length ++ b.Data))) := fun t ht => by
    have ew : IntKind.u8.wrap t = t := by rw [IntKind.wrap_u8]; unfold isB at ht; omega
    rw [concat_eq _ (by simp) ?_, ew]
    · simp
    · simp only [List.flatten_cons, List.length_append, List.flatten_nil, List.length_nil, List.length_singleton, hdr_len]
      omega
  left
  by_cases h3 : k = m.length
  · have hb := hlast h3
    subst hb
    rw [if_pos (by rw [beq_iff_eq]; omega)]
    have w3 : W (b.m_Type + 128) = b.m_Type + 128 := W_id (by omega) (by omega)
    simp only [blocks_Write_K2, w3, wk, big3, Option.bind_some]
    rw [hcon _ (by unfold isB; omega)]
    refine ⟨_, rfl, ⟨k + 1, rfl, by omega, hgs hgk, .inr ⟨by omega, ?_⟩⟩, by simp only; omega⟩
    simp only
    rw [hmk k hkm, h3, List.take_length]
    rfl
  · rw [if_neg (by rw [beq_iff_eq]; omega)]
    simp only [blocks_Write_K2, wk, big3, Option.bind_some]
    rw [hcon _ (by unfold isB; omega)]
    refine ⟨_, rfl, ⟨k + 1, rfl, by omega, hgs hgk, .inl ⟨by omega, ?_⟩⟩, by simp only; omega⟩
    simp only
    rw [hsn, encB, Int.add_zero]
end Go.Vg

/- What a document writes of blocks. -/
namespace Go.Vg
open Go

theorem W_succ (k : Nat) (h : k ≤ 1000000000000) : W ((k : Int) + 1) = ((k + 1 : Nat) : Int) := by rw [W_id (by omega) (by omega)]; omega
theorem rbyt (n : Int) (hn : 0 ≤ n) (s : Nat) (hs : s ≤ 64) : IntKind.u8.wrap ((shD .shr .i64 n (s : Int)).tmod 256) = byt n s := by
  have e : min (s : Int).toNat IntKind.i64.bits = s := by show min s 64 = s; omega
  have hp : (0 : Int) < 2 ^ s := Int.pow_pos (by decide)
  simp only [shD, e]
  rw [Int.fdiv_eq_ediv_of_nonneg _ (Int.le_of_lt hp), IntKind.wrap_u8, Int.tmod_eq_emod_of_nonneg (Int.ediv_nonneg hn (Int.le_of_lt hp))]
  unfold byt
  omega
theorem rbig3 (n : Int) (hn : 0 ≤ n) : jetsamref12_Big n 3 = some (hdr n) := by
  have h : jetsamref12_Big n 3 = some [IntKind.u8.wrap ((shD .shr .i64 n (16 : Nat)).tmod 256), IntKind.u8.wrap ((shD .shr .i64 n (8 : Nat)).tmod 256), IntKind.u8.wrap ((shD .shr .i64 n (0 : Nat)).tmod 256)] := by
    unfold jetsamref12_Big
    exact iter_n 4 (by omega) rfl
  rw [h, rbyt _ hn _ (by omega), rbyt _ hn _ (by omega), rbyt _ hn _ (by omega)]
  rfl

/-- What is written, with what is wrong. -/
def wbad (b : blocks_Block) (e : Int) : Prop := (e = 13 ∧ ¬(0 ≤ b.m_Type ∧ b.m_Type < 127)) ∨ (e = 21 ∧ (0 ≤ b.m_Type ∧ b.m_Type < 127) ∧ 16777215 < b.Data.length)
def WSpec (m : List blocks_Block) (z : blocks_Block) (r : List Int × Int) : Prop :=
  (r = (pre m ++ encB 128 z, 0) ∧ ∀ b, b ∈ m ++ [z] → good b) ∨ (r.1 = [] ∧ ∃ (k : Nat) (b : blocks_Block), (m ++ [z])[k]? = some b ∧ (∀ (j : Nat) (c : blocks_Block), j < k → (m ++ [z])[j]? = some c → good c) ∧ wbad b r.2)
theorem WSpec.uniq {m : List blocks_Block} {z : blocks_Block} {r r' : List Int × Int} (h : WSpec m z r) (h' : WSpec m z r') : r = r' := by
  obtain ⟨a, e⟩ := r
  obtain ⟨a', e'⟩ := r'
  have bad : ∀ {e : Int} {b : blocks_Block}, wbad b e → ¬good b := fun h hg => by unfold wbad at h; unfold good at hg; omega
  rcases h with ⟨h1, h2⟩ | ⟨h1, k, b, h2, h3, h4⟩ <;> rcases h' with ⟨h1', h2'⟩ | ⟨h1', k', b', h2', h3', h4'⟩
  · rw [h1, h1']
  · exact absurd (h2 _ (List.mem_of_getElem? h2')) (bad h4')
  · exact absurd (h2' _ (List.mem_of_getElem? h2)) (bad h4)
  · simp only at h1 h1' h4 h4'
    subst h1; subst h1'
    have hk : k = k' := by
      rcases Nat.lt_trichotomy k k' with h | h | h
      · exact absurd (h3' k b h h2) (bad h4)
      · exact h
      · exact absurd (h3 k' b' h h2') (bad h4')
    subst hk
    rw [h2] at h2'; cases h2'
    have : e = e' := by unfold wbad at h4 h4'; omega
    rw [this]
theorem write_spec (m : List blocks_Block) (z : blocks_Block) (hm : m.length ≤ 1000) :
    ∃ r, blocks_Write (m ++ [z]) = some r ∧ WSpec m z r := by
  unfold WSpec
  generalize hl : m ++ [z] = l
  have hlen : l.length = m.length + 1 := by rw [← hl]; simp
  have hz : l[m.length]? = some z := by rw [← hl]; simp
  have hmk : ∀ k, k ≤ m.length → l.take k = m.take k := fun k hk => by rw [← hl, List.take_append_of_le_length hk]
  unfold blocks_Write
  rw [if_neg (by rw [beq_iff_eq]; omega)]
  refine iter_of (fun a : List Int × Int => ∃ k : Nat, a.2 = k ∧ k ≤ l.length ∧ (∀ b, b ∈ l.take k → good b) ∧ ((k ≤ m.length ∧ a.1 = pre (l.take k)) ∨ (k = l.length ∧ a.1 = pre m ++ encB 128 z))) (fun a => (l.length - a.2).toNat) _ (fun a ha => ?_) ⟨0, rfl, by omega, by simp, .inl ⟨by omega, rfl⟩⟩ (lt_ROUNDS (by simp only; omega))
  obtain ⟨out, k'⟩ := a
  obtain ⟨k, rfl, hk, hg, ho⟩ := ha
  simp only at ho
  simp only [blocks_Write_L1]
  by_cases h : k < l.length
  case neg =>
    right
    rw [if_neg (by simpa using h)]
    have : k = l.length := by omega
    subst this
    rw [List.take_length] at hg
    rcases ho with ⟨ho, _⟩ | ⟨_, rfl⟩
    · omega
    · exact ⟨_, rfl, .inl ⟨rfl, hg⟩⟩
  have ho : k ≤ m.length ∧ out = pre (l.take k) := by
    rcases ho with ho | ⟨ho, _⟩
    · exact ho
    · omega
  obtain ⟨hkm, rfl⟩ := ho
  have e1 : l[k]? = some l[k] := List.getElem?_eq_getElem h
  have hmem : l[k] ∈ l := List.getElem_mem h
  have wk : W ((k : Int) + 1) = ((k + 1 : Nat) : Int) := by rw [W_id (by omega) (by omega)]; omega
  have wl : W ((l.length : Int) - 1) = (m.length : Int) := by rw [W_id (by omega) (by omega)]; omega
  have hsn := pre_snoc e1
  have hpl := pre_len (l.take k) hg
  have htl : (l.take k).length ≤ 1000 := by rw [List.length_take]; omega
  have hgs : good l[k] → ∀ b, b ∈ l.take (k + 1) → good b := fun hgk b hb => by
    rw [List.take_add_one, e1] at hb
    rcases List.mem_append.1 hb with hb | hb
    · exact hg b hb
    · simp at hb; rw [hb]; exact hgk
  have hbefore : ∀ (j : Nat) (c : blocks_Block), j < k → l[j]? = some c → good c := fun j c hj hc => hg c (by
    have : (l.take k)[j]? = some c := by rw [List.getElem?_take, if_pos hj]; exact hc
    exact List.mem_of_getElem? this)
  have hbad : ∀ e : Int, wbad l[k] e → ∃ (k : Nat) (b : blocks_Block), l[k]? = some b ∧ (∀ (j : Nat) (c : blocks_Block), j < k → l[j]? = some c → good c) ∧ wbad b e := fun e he => ⟨k, _, e1, hbefore, he⟩
  have hlast : k = m.length → l[k] = z := fun hh => by
    subst hh; rw [e1] at hz; exact Option.some.inj hz
  rw [if_pos (by simpa using h), idx_ok e1]
  simp only [Option.bind_some, wl]
  generalize l[k] = b at *
  by_cases h1 : b.m_Type < 0 ∨ 127 ≤ b.m_Type
  · right
    rw [if_pos (by rcases h1 with h1 | h1 <;> simp [h1])]
    exact ⟨_, rfl, .inr ⟨rfl, hbad 13 (.inl ⟨rfl, by omega⟩)⟩⟩
  rw [if_neg (by simp; omega)]
  by_cases h2 : 16777215 < b.Data.length
  · right
    rw [if_pos (by simp; omega)]
    exact ⟨_, rfl, .inr ⟨rfl, hbad 21 (.inr ⟨rfl, by omega, h2⟩)⟩⟩
  rw [if_neg (by simp; omega)]
  have hgk : good b := ⟨by omega, by omega, by omega⟩
  have hcon : ∀ t : Int, isB t → slices_Concat_sbyte_byte [pre (l.take k), [IntKind.u8.wrap t], hdr b.Data.length, b.Data] = some (pre (l.take k) ++ (t :: (hdr b.Data.length ++ b.Data))) := fun t ht => by
    have ew : IntKind.u8.wrap t = t := by rw [IntKind.wrap_u8]; unfold isB at ht; omega
    rw [concat_eq _ (by simp) ?_, ew]
    · simp
    · simp only [List.flatten_cons, List.length_append, List.flatten_nil, List.length_nil, List.length_singleton, hdr_len]
      omega
  left
  by_cases h3 : k = m.length
  · have hb := hlast h3
    subst hb
    rw [if_pos (by rw [beq_iff_eq]; omega)]
    have w3 : W (b.m_Type + 128) = b.m_Type + 128 := W_id (by omega) (by omega)
    simp only [blocks_Write_K2, w3, wk, big3, Option.bind_some]
    rw [hcon _ (by unfold isB; omega)]
    refine ⟨_, rfl, ⟨k + 1, rfl, by omega, hgs hgk, .inr ⟨by omega, ?_⟩⟩, by simp only; omega⟩
    simp only
    rw [hmk k hkm, h3, List.take_length]
    rfl
  · rw [if_neg (by rw [beq_iff_eq]; omega)]
    simp only [blocks_Write_K2, wk, big3, Option.bind_some]
    rw [hcon _ (by unfold isB; omega)]
    refine ⟨_, rfl, ⟨k + 1, rfl, by omega, hgs hgk, .inl ⟨by omega, ?_⟩⟩, by simp only; omega⟩
    simp only
    rw [hsn, encB, Int.add_zero]

theorem rwrite_nil : jetsamref12_Write [] [] = some ([], 20) := rfl
theorem rwrite_spec (m : List blocks_Block) (z : blocks_Block) (hm : m.length ≤ 1000) :
    ∃ r, jetsamref12_Write ((m ++ [z]).map (·.m_Type)) ((m ++ [z]).map (·.Data)) = some r ∧ WSpec m z r := by
  unfold WSpec
  generalize hl : m ++ [z] = l
  have hlen : l.length = m.length + 1 := by rw [← hl]; simp
  have hz : l[m.length]? = some z := by rw [← hl]; simp
  have hmk : ∀ k, k ≤ m.length → l.take k = m.take k := fun k hk => by rw [← hl, List.take_append_of_le_length hk]
  unfold jetsamref12_Write
  rw [if_neg (by rw [beq_iff_eq, List.length_map]; omega)]
  refine iter_of (fun a : Int × List Int => ∃ k : Nat, a.1 = k ∧ k ≤ l.length ∧ (∀ b, b ∈ l.take k → good b) ∧ ((k ≤ m.length ∧ a.2 = pre (l.take k)) ∨ (k = l.length ∧ a.2 = pre m ++ encB 128 z))) (fun a => (l.length - a.1).toNat) _ (fun a ha => ?_) ⟨0, rfl, by omega, by simp, .inl ⟨by omega, rfl⟩⟩ (lt_ROUNDS (by simp only; omega))
  obtain ⟨k', out⟩ := a
  obtain ⟨k, rfl, hk, hg, ho⟩ := ha
  simp only at ho
  simp only [jetsamref12_Write_L1, List.length_map]
  by_cases h : k < l.length
  case neg =>
    right
    rw [if_neg (by simpa using h)]
    have : k = l.length := by omega
    subst this
    rw [List.take_length] at hg
    rcases ho with ⟨ho, _⟩ | ⟨_, rfl⟩
    · omega
    · exact ⟨_, rfl, .inl ⟨rfl, hg⟩⟩
  have ho : k ≤ m.length ∧ out = pre (l.take k) := by
    rcases ho with ho | ⟨ho, _⟩
    · exact ho
    · omega
  obtain ⟨hkm, rfl⟩ := ho
  obtain ⟨b, e1⟩ : ∃ b, l[k]? = some b := ⟨_, List.getElem?_eq_getElem h⟩
  have wk : W ((k : Int) + 1) = ((k + 1 : Nat) : Int) := W_succ _ (by omega)
  have hsn := pre_snoc e1
  have hpl := pre_len (l.take k) hg
  have htl : (l.take k).length ≤ 1000 := by rw [List.length_take]; omega
  have hgs : good b → ∀ c, c ∈ l.take (k + 1) → good c := fun hgk c hc => by
    rw [List.take_add_one, e1] at hc
    rcases List.mem_append.1 hc with hc | hc
    · exact hg c hc
    · simp at hc; rw [hc]; exact hgk
  have hbefore : ∀ (j : Nat) (c : blocks_Block), j < k → l[j]? = some c → good c := fun j c hj hc => hg c (by
    have : (l.take k)[j]? = some c := by rw [List.getElem?_take, if_pos hj]; exact hc
    exact List.mem_of_getElem? this)
  have hbad : ∀ e : Int, wbad b e → ∃ (k : Nat) (b : blocks_Block), l[k]? = some b ∧ (∀ (j : Nat) (c : blocks_Block), j < k → l[j]? = some c → good c) ∧ wbad b e := fun e he => ⟨k, _, e1, hbefore, he⟩
  have hlast : k = m.length → b = z := fun hh => by
    subst hh; rw [e1] at hz; exact Option.some.inj hz
  have t1 : (l.map (·.m_Type))[k]? = some b.m_Type := by rw [List.getElem?_map, e1]; rfl
  have t2 : (l.map (·.Data))[k]? = some b.Data := by rw [List.getElem?_map, e1]; rfl
  rw [if_pos (by simpa using h), idx_ok t1, idx_ok t2, wk]
  simp only [Option.bind_some]
  by_cases h0 : b.m_Type < 0
  · right
    rw [if_pos (by simpa using h0)]
    exact ⟨_, rfl, .inr ⟨rfl, hbad 13 (.inl ⟨rfl, by omega⟩)⟩⟩
  rw [if_neg (by simpa using h0)]
  by_cases h1 : 126 < b.m_Type
  · right
    rw [if_pos (by simpa using h1)]
    exact ⟨_, rfl, .inr ⟨rfl, hbad 13 (.inl ⟨rfl, by omega⟩)⟩⟩
  rw [if_neg (by simpa using h1)]
  by_cases h2 : 16777215 < b.Data.length
  · right
    rw [if_pos (by simp; omega)]
    exact ⟨_, rfl, .inr ⟨rfl, hbad 21 (.inr ⟨rfl, by omega, h2⟩)⟩⟩
  rw [if_neg (by simp; omega)]
  have hgk : good b := ⟨by omega, by omega, by omega⟩
  have hK2 : ∀ t : Int, isB t → jetsamref12_Write_K2 (l.map (·.Data)) ((k : Int), pre (l.take k)) t = some (.inl (((k + 1 : Nat) : Int), pre (l.take k) ++ (t :: (hdr b.Data.length ++ b.Data)))) := fun t ht => by
    have ew : IntKind.u8.wrap t = t := by rw [IntKind.wrap_u8]; unfold isB at ht; omega
    simp only [jetsamref12_Write_K2, ew, idx_ok t2, wk]
    rw [app_ok (by rw [List.length_singleton]; omega)]
    simp only [Option.bind_some]
    rw [rbig3 _ (by omega)]
    simp only [Option.bind_some]
    rw [app_ok (by rw [List.length_append, List.length_singleton, hdr_len]; omega)]
    simp only [Option.bind_some]
    rw [app_ok (by rw [List.length_append, List.length_append, List.length_singleton, hdr_len]; omega)]
    simp
  left
  by_cases h3 : k = m.length
  · have hb := hlast h3
    subst hb
    rw [if_pos (by rw [beq_iff_eq]; omega)]
    have w3 : W (b.m_Type + 128) = b.m_Type + 128 := W_id (by omega) (by omega)
    rw [w3, hK2 _ (by unfold isB; omega)]
    refine ⟨_, rfl, ⟨k + 1, rfl, by omega, hgs hgk, .inr ⟨by omega, ?_⟩⟩, by simp only; omega⟩
    simp only
    rw [hmk k hkm, h3, List.take_length]
    rfl
  · rw [if_neg (by rw [beq_iff_eq]; omega)]
    rw [hK2 _ (by unfold isB; omega)]
    refine ⟨_, rfl, ⟨k + 1, rfl, by omega, hgs hgk, .inl ⟨by omega, ?_⟩⟩, by simp only; omega⟩
    simp only
    rw [hsn, encB, Int.add_zero]
end Go.Vg

/- In what order blocks may stand. -/
namespace Go.Vg
open Go

theorem idx_W {α : Type} {l : List α} {i : Int} {k : Nat} {x : α} (hk : i = k) (h : l[k]? = some x) : idx l i = some x := by subst hk; exact idx_ok h
theorem trimR_of (l : List Int) (hl : l.length ≤ 1000000) : ∃ r, bytes_trimRightByte l 0 = some r ∧ r.length ≤ l.length ∧ ((r = [] ∧ ∀ x, x ∈ l → x = 0) ∨ ∃ p y, r = p ++ [y] ∧ y ≠ 0 ∧ y ∈ l) := by
  unfold bytes_trimRightByte
  refine iter_of (fun a : List Int => ∃ j : Nat, j ≤ l.length ∧ a = l.take j ∧ ∀ x, x ∈ l.drop j → x = 0) (fun a => a.length) _ (fun a ha => ?_) ⟨l.length, by omega, by rw [List.take_length], by simp⟩ (lt_ROUNDS (by omega))
  obtain ⟨j, hj, rfl, hz⟩ := ha
  have hlen : (l.take j).length = j := by rw [List.length_take]; omega
  simp only [bytes_trimRightByte_L1]
  by_cases h0 : j = 0
  · right
    subst h0
    rw [if_neg (by simp)]
    exact ⟨_, rfl, by simp, .inl ⟨by simp, fun x hx => hz x (by simpa using hx)⟩⟩
  · have e1 : l[j - 1]? = some l[j - 1] := List.getElem?_eq_getElem (by omega)
    have e2 : (l.take j)[j - 1]? = some l[j - 1] := by rw [List.getElem?_take, if_pos (by omega), e1]
    have hw : W (((l.take j).length : Int) - 1) = ((j - 1 : Nat) : Int) := by rw [hlen, W_id (by omega) (by omega)]; omega
    have hsp : l.take j = l.take (j - 1) ++ [l[j - 1]] := by
      have := List.take_add_one (l := l) (i := j - 1)
      rw [show j - 1 + 1 = j by omega, e1] at this
      exact this
    rw [if_pos (by simp; omega), hw, idx_ok e2]
    simp only [Option.bind_some]
    by_cases h1 : l[j - 1] = 0
    · left
      rw [if_pos (by simpa using h1), sub_nat (i := 0) (a := 0) (b := j - 1) rfl rfl (by omega) (by omega)]
      refine ⟨_, rfl, ⟨j - 1, by omega, ?_, fun x hx => ?_⟩, ?_⟩
      · rw [List.drop_zero, Nat.sub_zero, List.take_take, Nat.min_eq_left (by omega)]
      · rw [List.drop_eq_getElem_cons (by omega), show j - 1 + 1 = j by omega] at hx
        rcases List.mem_cons.1 hx with rfl | hx
        · exact h1
        · exact hz x hx
      · rw [List.length_take, List.length_drop]; omega
    · right
      rw [if_neg (by simpa using h1)]
      exact ⟨_, rfl, by omega, .inr ⟨_, _, hsp, h1, List.getElem_mem _⟩⟩
theorem trimL_nil : bytes_trimLeftByte [] 0 = some [] := iter_n 1 (by omega) rfl
theorem trimL_of (p : List Int) (y : Int) (hy : y ≠ 0) (hl : p.length ≤ 1000000) : ∃ r, bytes_trimLeftByte (p ++ [y]) 0 = some r ∧ 0 < r.length := by
  unfold bytes_trimLeftByte
  refine iter_of (fun a : List Int => ∃ q, a = q ++ [y] ∧ q.length ≤ 1000000) (fun a => a.length) _ (fun a ha => ?_) ⟨p, rfl, hl⟩ (lt_ROUNDS (by rw [List.length_append]; simp; omega))
  obtain ⟨q, rfl, hq⟩ := ha
  simp only [bytes_trimLeftByte_L1]
  have hlen : (q ++ [y]).length = q.length + 1 := by simp
  rw [if_pos (by rw [hlen]; simp)]
  cases q with
  | nil =>
    right
    rw [idx_W (i := 0) (k := 0) (x := y) rfl rfl]
    simp only [Option.bind_some]
    rw [if_neg (by simpa using hy)]
    exact ⟨_, rfl, by simp⟩
  | cons x t =>
    rw [idx_W (i := 0) (k := 0) (x := x) rfl rfl]
    simp only [Option.bind_some]
    by_cases hx : x = 0
    · left
      rw [if_pos (by simpa using hx), sub_nat (i := 1) (a := 1) (b := ((x :: t) ++ [y]).length) rfl rfl (by simp) (by omega)]
      refine ⟨_, rfl, ⟨t, ?_, by simp at hq; omega⟩, ?_⟩
      · simp only [List.cons_append, List.drop_succ_cons, List.drop_zero]
        rw [List.take_of_length_le (by simp)]
      · simp only [List.cons_append, List.drop_succ_cons, List.drop_zero, List.length_take, List.length_cons]; omega
    · right
      rw [if_neg (by simpa using hx)]
      simp only [bytes_trimLeftByte_K1]
      rw [if_neg (by rw [beq_iff_eq]; simp; omega)]
      exact ⟨_, rfl, by simp⟩

def badB (b : blocks_Block) : Bool := if b.m_Type = 1 then b.Data.any (· != 0) else if b.m_Type = 2 then decide (b.Data.length < 4) else if b.m_Type = 3 then decide (b.Data.length % 18 ≠ 0) else false
theorem bad_eq (b : blocks_Block) (hl : b.Data.length ≤ 1000000) : blocks_bad b = some (badB b) := by
  unfold blocks_bad badB
  by_cases h1 : b.m_Type = 1
  · rw [if_pos (by simpa using h1), if_pos h1]
    have key : ∃ r, bytes_Trim b.Data [0] = some r ∧ decide ((r.length : Int) > 0) = b.Data.any (· != 0) := by
      unfold bytes_Trim
      by_cases h0 : b.Data = []
      · rw [if_pos (by rw [h0]; rfl)]; exact ⟨_, rfl, by rw [h0]; rfl⟩
      have h0' : b.Data.length ≠ 0 := fun h => h0 (List.length_eq_zero_iff.1 h)
      rw [if_neg (by rw [beq_iff_eq]; omega), if_neg (by decide), if_pos (by decide), idx_W (i := 0) (k := 0) (x := (0 : UInt8)) rfl rfl]
      simp only [Option.bind_some]
      rw [if_pos (by decide)]
      obtain ⟨r, g1, g2, g3⟩ := trimR_of b.Data hl
      rw [show (((0 : UInt8).toNat : Nat) : Int) = 0 from rfl, g1]
      simp only [Option.bind_some]
      rcases g3 with ⟨rfl, hz⟩ | ⟨p, y, rfl, hy, hm⟩
      · rw [trimL_nil]
        refine ⟨_, rfl, ?_⟩
        have : b.Data.any (· != 0) = false := by rw [List.any_eq_false]; intro x hx; simp [hz x hx]
        rw [this]; rfl
      · obtain ⟨r', g4, g5⟩ := trimL_of p y hy (by rw [List.length_append] at g2; omega)
        rw [g4]
        refine ⟨_, rfl, ?_⟩
        have : b.Data.any (· != 0) = true := List.any_eq_true.2 ⟨y, hm, by simpa using hy⟩
        rw [this]; simp; omega
    obtain ⟨r, k1, k2⟩ := key
    rw [k1, ← k2]; rfl
  rw [if_neg (by simpa using h1), if_neg h1]
  by_cases h2 : b.m_Type = 2
  · rw [if_pos (by simpa using h2), if_pos h2]
    congr 1; by_cases h : b.Data.length < 4 <;> simp <;> omega
  rw [if_neg (by simpa using h2), if_neg h2]
  by_cases h3 : b.m_Type = 3
  · rw [if_pos (by simpa using h3), if_pos h3]
    have hm : ((b.Data.length : Int).tmod 18) = ((b.Data.length % 18 : Nat) : Int) := by rw [Int.tmod_eq_emod_of_nonneg (by omega)]; omega
    rw [hm]
    congr 1; by_cases h : b.Data.length % 18 = 0 <;> simp [h] <;> omega
  rw [if_neg (by simpa using h3), if_neg h3]

theorem many_eq (l : List blocks_Block) (t : Int) (hl : l.length ≤ 1000000) : blocks_many l t = some ((l.countP (·.m_Type == t) : Nat) : Int) := by
  unfold blocks_many
  refine iter_eq (fun a : Int × Int => ∃ k : Nat, a.2 = k ∧ k ≤ l.length ∧ a.1 = ((l.take k).countP (·.m_Type == t) : Nat)) (fun a => (l.length - a.2).toNat) _ (fun a ha => ?_) ⟨0, rfl, by omega, rfl⟩ (lt_ROUNDS (by simp only; omega))
  obtain ⟨v, k'⟩ := a
  obtain ⟨k, rfl, hk, rfl⟩ := ha
  simp only [blocks_many_L1, blocks_many_K2]
  by_cases h : k < l.length
  · left
    obtain ⟨b, e1⟩ : ∃ b, l[k]? = some b := ⟨_, List.getElem?_eq_getElem h⟩
    have hc : (l.take (k + 1)).countP (·.m_Type == t) = (l.take k).countP (·.m_Type == t) + if (b.m_Type == t) = true then 1 else 0 := by
      rw [List.take_add_one, e1, Option.toList_some, List.countP_append]; simp [List.countP_cons]
    have hle : (l.take k).countP (·.m_Type == t) ≤ k := Nat.le_trans List.countP_le_length (by rw [List.length_take]; omega)
    rw [if_pos (by simpa using h), idx_ok e1, W_succ k (by omega)]
    simp only [Option.bind_some]
    by_cases hb : (b.m_Type == t) = true
    · rw [if_pos hb, W_succ _ (by omega)]
      rw [if_pos hb] at hc
      exact ⟨_, rfl, ⟨k + 1, rfl, by omega, by simp only; rw [hc]⟩, by simp only; omega⟩
    · rw [if_neg hb]
      rw [if_neg hb] at hc
      exact ⟨_, rfl, ⟨k + 1, rfl, by omega, by simp only; rw [hc]; rfl⟩, by simp only; omega⟩
  · right
    rw [if_neg (by simpa using h)]
    have : k = l.length := by omega
    subst this
    rw [List.take_length]; rfl
theorem containsB_eq (l : List blocks_Block) (hl : l.length ≤ 1000000) (hd : ∀ b, b ∈ l → b.Data.length ≤ 1000000) : slices_ContainsFunc_sblocks_Block_blocks_Block l blocks_bad = some (l.any badB) := by
  have h : ∃ r, slices_IndexFunc_sblocks_Block_blocks_Block l blocks_bad = some r ∧ decide (r ≥ 0) = l.any badB := by
    unfold slices_IndexFunc_sblocks_Block_blocks_Block
    refine iter_of (fun i : Int => ∃ k : Nat, i = k ∧ k ≤ l.length ∧ (l.take k).any badB = false) (fun i => (l.length - i).toNat) _ (fun i hi => ?_) ⟨0, rfl, by omega, by simp⟩ (lt_ROUNDS (by omega))
    obtain ⟨k, rfl, hk, hn⟩ := hi
    simp only [slices_IndexFunc_sblocks_Block_blocks_Block_L1]
    by_cases h : k < l.length
    · have e1 : l[k]? = some l[k] := List.getElem?_eq_getElem h
      have ht := anyTake (f := badB) e1
      rw [hn, Bool.false_or] at ht
      rw [if_pos (by simpa using h), idx_ok e1]
      simp only [Option.bind_some, bad_eq _ (hd _ (List.getElem_mem h))]
      cases hb : badB l[k] with
      | true =>
        right
        rw [if_pos rfl]
        refine ⟨_, rfl, ?_⟩
        rw [any_of_take (k := k + 1) (by rw [ht, hb])]
        simp
      | false =>
        left
        rw [if_neg (by simp)]
        refine ⟨_, rfl, ⟨k + 1, ?_, by omega, by rw [ht, hb]⟩, ?_⟩
        · rw [W_id (by omega) (by omega)]; omega
        · rw [W_id (by omega) (by omega)]; omega
    · right
      rw [if_neg (by simpa using h)]
      have : k = l.length := by omega
      subst this
      rw [List.take_length] at hn
      exact ⟨_, rfl, by rw [hn]; rfl⟩
  obtain ⟨r, h1, h2⟩ := h
  unfold slices_ContainsFunc_sblocks_Block_blocks_Block
  rw [h1, ← h2]; rfl

/-- What is wrong with blocks' order. -/
def ordS (l : List blocks_Block) : Int :=
  match l with
  | [] => 20
  | a :: _ => if a.m_Type ≠ 0 then 20 else if 1 < l.countP (·.m_Type == 0) ∨ 1 < l.countP (·.m_Type == 3) ∨ 1 < l.countP (·.m_Type == 4) then 19 else if a.Data.length ≠ 34 then 10 else if l.any badB = true then 12 else 0
theorem order_eq (l : List blocks_Block) (hl : l.length ≤ 1000000) (hd : ∀ b, b ∈ l → b.Data.length ≤ 1000000) : blocks_Order l = some (ordS l) := by
  unfold blocks_Order
  cases l with
  | nil => rfl
  | cons a r =>
    have hS : ordS (a :: r) = if a.m_Type ≠ 0 then 20 else if 1 < (a :: r).countP (·.m_Type == 0) ∨ 1 < (a :: r).countP (·.m_Type == 3) ∨ 1 < (a :: r).countP (·.m_Type == 4) then 19 else if a.Data.length ≠ 34 then 10 else if (a :: r).any badB = true then 12 else 0 := rfl
    rw [if_neg (by rw [beq_iff_eq, List.length_cons]; omega), idx_W (i := 0) (k := 0) (x := a) rfl rfl]
    simp only [Option.bind_some]
    by_cases h1 : a.m_Type = 0
    case neg =>
      rw [if_pos h1] at hS
      rw [if_pos (by simpa using h1), hS]
    rw [if_neg (not_not_intro h1)] at hS
    rw [if_neg (by simpa using h1), many_eq _ _ hl]
    simp only [Option.bind_some]
    by_cases h2 : 1 < (a :: r).countP (·.m_Type == 0)
    · rw [if_pos (.inl h2)] at hS
      rw [if_pos (by simp only [decide_eq_true_eq]; omega), hS]
    rw [if_neg (by simp only [decide_eq_true_eq]; omega), many_eq _ _ hl]
    simp only [Option.bind_some]
    by_cases h3 : 1 < (a :: r).countP (·.m_Type == 3)
    · rw [if_pos (.inr (.inl h3))] at hS
      rw [if_pos (by simp only [decide_eq_true_eq]; omega), hS]
    rw [if_neg (by simp only [decide_eq_true_eq]; omega), many_eq _ _ hl]
    simp only [Option.bind_some]
    by_cases h4 : 1 < (a :: r).countP (·.m_Type == 4)
    · rw [if_pos (.inr (.inr h4))] at hS
      rw [if_pos (by simp only [decide_eq_true_eq]; omega), hS]
    rw [if_neg (fun h => by rcases h with h | h | h <;> contradiction)] at hS
    rw [if_neg (by simp only [decide_eq_true_eq]; omega)]
    by_cases h5 : a.Data.length = 34
    case neg =>
      rw [if_pos h5] at hS
      rw [if_pos (by rw [bne_iff_ne]; omega), hS]
    rw [if_neg (not_not_intro h5)] at hS
    rw [if_neg (by rw [bne_iff_ne]; omega), containsB_eq _ hl hd]
    simp only [Option.bind_some]
    rw [hS]
    split <;> rfl
end Go.Vg

/- Blocks' order as the document has it; and the law. -/
namespace Go.Vg
open Go

theorem cnt2 (p : blocks_Block → Bool) : ∀ l : List blocks_Block, 1 < l.countP p ↔ ∃ (i j : Nat) (x y : blocks_Block), j < i ∧ l[j]? = some x ∧ l[i]? = some y ∧ p x = true ∧ p y = true
  | [] => by simp
  | a :: r => by
    have ih := cnt2 p r
    rw [List.countP_cons]
    constructor
    · intro h
      by_cases h1 : 1 < r.countP p
      · obtain ⟨i, j, x, y, g1, g2, g3, g4⟩ := ih.1 h1
        exact ⟨i + 1, j + 1, x, y, by omega, by simpa using g2, by simpa using g3, g4⟩
      · by_cases ha : p a = true
        · rw [if_pos ha] at h
          obtain ⟨y, hy, hp⟩ := List.countP_pos_iff.1 (show 0 < r.countP p by omega)
          obtain ⟨i, hi⟩ := List.mem_iff_getElem?.1 hy
          exact ⟨i + 1, 0, a, y, by omega, rfl, by simpa using hi, ha, hp⟩
        · rw [if_neg ha] at h; omega
    · rintro ⟨i, j, x, y, g1, g2, g3, g4, g5⟩
      cases i with
      | zero => omega
      | succ i =>
        have g3 : r[i]? = some y := by simpa using g3
        cases j with
        | zero =>
          have : a = x := by simpa using g2
          subst this
          rw [if_pos g4]
          have := List.countP_pos_iff.2 ⟨y, List.mem_of_getElem? g3, g5⟩
          omega
        | succ j =>
          have g2 : r[j]? = some x := by simpa using g2
          have := ih.2 ⟨i, j, x, y, by omega, g2, g3, g4, g5⟩
          omega

def bad3 (t : Int) : Prop := t = 0 ∨ t = 3 ∨ t = 4
def dup (l : List blocks_Block) (k : Nat) : Prop := ∃ (i j : Nat) (x y : blocks_Block), j < i ∧ i < k ∧ l[j]? = some x ∧ l[i]? = some y ∧ x.m_Type = y.m_Type ∧ bad3 y.m_Type
theorem dup_iff (l : List blocks_Block) : dup l l.length ↔ (1 < l.countP (·.m_Type == 0) ∨ 1 < l.countP (·.m_Type == 3) ∨ 1 < l.countP (·.m_Type == 4)) := by
  rw [cnt2, cnt2, cnt2]
  constructor
  · rintro ⟨i, j, x, y, h1, _, h3, h4, h5, h6⟩
    rcases h6 with h6 | h6 | h6
    · exact .inl ⟨i, j, x, y, h1, h3, h4, by rw [beq_iff_eq]; omega, by rw [beq_iff_eq]; omega⟩
    · exact .inr (.inl ⟨i, j, x, y, h1, h3, h4, by rw [beq_iff_eq]; omega, by rw [beq_iff_eq]; omega⟩)
    · exact .inr (.inr ⟨i, j, x, y, h1, h3, h4, by rw [beq_iff_eq]; omega, by rw [beq_iff_eq]; omega⟩)
  · rintro (⟨i, j, x, y, h1, h3, h4, h5, h6⟩ | ⟨i, j, x, y, h1, h3, h4, h5, h6⟩ | ⟨i, j, x, y, h1, h3, h4, h5, h6⟩) <;> rw [beq_iff_eq] at h5 h6
    · exact ⟨i, j, x, y, h1, (List.getElem?_eq_some_iff.1 h4).1, h3, h4, by omega, .inl h6⟩
    · exact ⟨i, j, x, y, h1, (List.getElem?_eq_some_iff.1 h4).1, h3, h4, by omega, .inr (.inl h6)⟩
    · exact ⟨i, j, x, y, h1, (List.getElem?_eq_some_iff.1 h4).1, h3, h4, by omega, .inr (.inr h6)⟩

section
variable (l : List blocks_Block) (hl : l.length ≤ 1000)
abbrev typs (l : List blocks_Block) : List Int := l.map (·.m_Type)
abbrev dats (l : List blocks_Block) : List (List Int) := l.map (·.Data)
theorem typ_at {l : List blocks_Block} {k : Nat} {b : blocks_Block} (h : l[k]? = some b) : (typs l)[k]? = some b.m_Type := by rw [List.getElem?_map, h]; rfl
theorem dat_at {l : List blocks_Block} {k : Nat} {b : blocks_Block} (h : l[k]? = some b) : (dats l)[k]? = some b.Data := by rw [List.getElem?_map, h]; rfl

include hl in
theorem rL7 {i : Nat} {y : blocks_Block} (hi : l[i]? = some y) : ∃ r, iter (jetsamref12_Order_L7 (typs l) (i : Int)) 0 = some r ∧
    ((r = .inl ((i + 1 : Nat) : Int) ∧ ∀ (j : Nat) (x : blocks_Block), j < i → l[j]? = some x → x.m_Type = y.m_Type → ¬bad3 y.m_Type) ∨ (r = .inr 19 ∧ ∃ (j : Nat) (x : blocks_Block), j < i ∧ l[j]? = some x ∧ x.m_Type = y.m_Type ∧ bad3 y.m_Type)) := by
  have hil := (List.getElem?_eq_some_iff.1 hi).1
  refine iter_of (fun a : Int => ∃ k : Nat, a = k ∧ k ≤ i ∧ ∀ (j : Nat) (x : blocks_Block), j < k → l[j]? = some x → x.m_Type = y.m_Type → ¬bad3 y.m_Type) (fun a => (i - a).toNat) _ (fun a ha => ?_) ⟨0, rfl, by omega, fun j _ h => by omega⟩ (lt_ROUNDS (by omega))
  obtain ⟨k, rfl, hk, hn⟩ := ha
  simp only [jetsamref12_Order_L7]
  by_cases h : k < i
  · obtain ⟨x, hx⟩ : ∃ x, l[k]? = some x := ⟨_, List.getElem?_eq_getElem (by omega)⟩
    rw [if_pos (by simpa using h), idx_ok (typ_at hi), idx_ok (typ_at hx), W_succ _ (by omega)]
    simp only [Option.bind_some]
    have go : (x.m_Type = y.m_Type → ¬bad3 y.m_Type) → ∃ a' : Int, (some (.inl ((k + 1 : Nat) : Int)) : Option (Int ⊕ (Int ⊕ Int))) = some (.inl a') ∧ (∃ q : Nat, a' = q ∧ q ≤ i ∧ ∀ (j : Nat) (x : blocks_Block), j < q → l[j]? = some x → x.m_Type = y.m_Type → ¬bad3 y.m_Type) ∧ (i - a').toNat < (i - (k : Int)).toNat := fun hg =>
      ⟨_, rfl, ⟨k + 1, rfl, by omega, fun j x' hj hx' => by
        by_cases hjk : j = k
        · subst hjk; rw [hx] at hx'; cases hx'; exact hg
        · exact hn j x' (by omega) hx'⟩, by omega⟩
    have stop : x.m_Type = y.m_Type → bad3 y.m_Type → ∃ r, (Option.map Sum.inr (Option.map Sum.inr (some (19 : Int))) : Option (Int ⊕ (Int ⊕ Int))) = some (.inr r) ∧ ((r = .inl ((i + 1 : Nat) : Int) ∧ ∀ (j : Nat) (x : blocks_Block), j < i → l[j]? = some x → x.m_Type = y.m_Type → ¬bad3 y.m_Type) ∨ (r = .inr 19 ∧ ∃ (j : Nat) (x : blocks_Block), j < i ∧ l[j]? = some x ∧ x.m_Type = y.m_Type ∧ bad3 y.m_Type)) := fun h1 h2 =>
      ⟨_, rfl, .inr ⟨rfl, k, x, h, hx, h1, h2⟩⟩
    by_cases h1 : x.m_Type = y.m_Type
    · rw [if_pos (by rw [beq_iff_eq]; omega)]
      by_cases h2 : y.m_Type = 0
      · right; rw [if_pos (by simpa using h2)]; exact stop h1 (.inl h2)
      rw [if_neg (by simpa using h2)]
      by_cases h3 : y.m_Type = 3
      · right; rw [if_pos (by simpa using h3)]; exact stop h1 (.inr (.inl h3))
      rw [if_neg (by simpa using h3)]
      by_cases h4 : y.m_Type = 4
      · right; rw [if_pos (by simpa using h4)]; exact stop h1 (.inr (.inr h4))
      rw [if_neg (by simpa using h4)]
      left
      exact go (fun _ hb => by rcases hb with hb | hb | hb <;> contradiction)
    · left
      rw [if_neg (by rw [beq_iff_eq]; omega)]
      exact go (fun h => absurd h h1)
  · right
    rw [if_neg (by simpa using h)]
    have : k = i := by omega
    subst this
    simp only [jetsamref12_Order_K4]
    rw [W_succ _ (by omega)]
    exact ⟨_, rfl, .inl ⟨rfl, hn⟩⟩

include hl in
theorem rL6 : ∃ r, iter (jetsamref12_Order_L6 (typs l) (dats l)) 0 = some r ∧ ((dup l l.length ∧ r = 19) ∨ (¬dup l l.length ∧ jetsamref12_Order_K1 (typs l) (dats l) () = some r)) ∨ jetsamref12_Order_K1 (typs l) (dats l) () = none := by
  cases hK : jetsamref12_Order_K1 (typs l) (dats l) () with
  | none => exact ⟨0, .inr rfl⟩
  | some rk =>
  have h : ∃ r, iter (jetsamref12_Order_L6 (typs l) (dats l)) 0 = some r ∧ ((dup l l.length ∧ r = 19) ∨ (¬dup l l.length ∧ r = rk)) := by
    refine iter_of (fun a : Int => ∃ k : Nat, a = k ∧ k ≤ l.length ∧ ¬dup l k) (fun a => (l.length - a).toNat) _ (fun a ha => ?_) ⟨0, rfl, by omega, fun ⟨i, j, x, y, h1, h2, _⟩ => by omega⟩ (lt_ROUNDS (by omega))
    obtain ⟨k, rfl, hk, hn⟩ := ha
    simp only [jetsamref12_Order_L6, List.length_map]
    by_cases h : k < l.length
    · obtain ⟨y, hy⟩ : ∃ y, l[k]? = some y := ⟨_, List.getElem?_eq_getElem h⟩
      rw [if_pos (by simpa using h)]
      obtain ⟨r, g1, g2⟩ := rL7 l hl hy
      rw [g1]
      rcases g2 with ⟨rfl, g2⟩ | ⟨rfl, j, x, g2, g3, g4, g5⟩
      · left
        refine ⟨_, rfl, ⟨k + 1, rfl, by omega, ?_⟩, by omega⟩
        rintro ⟨i, j, x, y', h1, h2, h3, h4, h5, h6⟩
        by_cases hik : i = k
        · subst hik; rw [hy] at h4; cases h4
          exact g2 j x h1 h3 h5 h6
        · exact hn ⟨i, j, x, y', h1, by omega, h3, h4, h5, h6⟩
      · right
        exact ⟨_, rfl, .inl ⟨⟨k, j, x, y, g2, h, g3, hy, g4, g5⟩, rfl⟩⟩
    · right
      rw [if_neg (by simpa using h), hK]
      have : k = l.length := by omega
      subst this
      exact ⟨_, rfl, .inr ⟨hn, rfl⟩⟩
  obtain ⟨r, h1, h2⟩ := h
  refine ⟨r, .inl ⟨h1, ?_⟩⟩
  rcases h2 with h2 | ⟨h2, rfl⟩
  · exact .inl h2
  · exact .inr ⟨h2, rfl⟩

variable (hd : ∀ b, b ∈ l → b.Data.length ≤ 1000000)
include hl hd in
theorem rL3 {i : Nat} {b : blocks_Block} (hi : l[i]? = some b) (h2 : b.m_Type ≠ 2) (h3 : b.m_Type ≠ 3) : iter (jetsamref12_Order_L3 (typs l) (dats l) (i : Int) b.m_Type) 0 = some (if badB b = true then .inr 12 else .inl ((i + 1 : Nat) : Int)) := by
  have hil := (List.getElem?_eq_some_iff.1 hi).1
  have hdl := hd b (List.mem_of_getElem? hi)
  by_cases h1 : b.m_Type = 1
  · have hb : badB b = b.Data.any (· != 0) := by unfold badB; rw [if_pos h1]
    rw [hb]
    refine iter_eq (fun a : Int => ∃ k : Nat, a = k ∧ k ≤ b.Data.length ∧ (b.Data.take k).any (· != 0) = false) (fun a => (b.Data.length - a).toNat) _ (fun a ha => ?_) ⟨0, rfl, by omega, by simp⟩ (lt_ROUNDS (by omega))
    obtain ⟨k, rfl, hk, hn⟩ := ha
    simp only [jetsamref12_Order_L3, idx_ok (dat_at hi), idx_ok (typ_at hi), Option.bind_some]
    by_cases h : k < b.Data.length
    · obtain ⟨x, e1⟩ : ∃ x, b.Data[k]? = some x := ⟨_, List.getElem?_eq_getElem h⟩
      have ht := anyTake (f := (· != 0)) e1
      rw [hn, Bool.false_or] at ht
      rw [if_pos (by simpa using h), if_pos (by simpa using h1), idx_ok e1]
      simp only [Option.bind_some]
      by_cases hx : x = 0
      · left
        rw [if_neg (by simpa using hx), W_succ _ (by omega)]
        exact ⟨_, rfl, ⟨k + 1, rfl, by omega, by rw [ht]; simpa using hx⟩, by omega⟩
      · right
        rw [if_pos (by simpa using hx), any_of_take (k := k + 1) (by rw [ht]; simpa using hx)]
        rfl
    · right
      rw [if_neg (by simpa using h)]
      have : k = b.Data.length := by omega
      subst this
      rw [List.take_length] at hn
      rw [hn]
      simp only [jetsamref12_Order_K3]
      rw [W_succ _ (by omega)]
      rfl
  · have hb : badB b = false := by unfold badB; rw [if_neg h1, if_neg h2, if_neg h3]
    rw [hb]
    refine iter_eq (fun a : Int => a = 0) (fun _ => 0) _ (fun a ha => ?_) rfl (lt_ROUNDS (by omega))
    subst ha
    right
    simp only [jetsamref12_Order_L3, idx_ok (dat_at hi), idx_ok (typ_at hi), Option.bind_some, jetsamref12_Order_K3]
    rw [if_neg (c := (b.m_Type == 1) = true) (by simpa using h1), ite_self, W_succ _ (by omega)]
    rfl
include hl in
theorem rL3' {i : Nat} {b : blocks_Block} (hi : l[i]? = some b) (h1 : b.m_Type ≠ 1) : iter (jetsamref12_Order_L3 (typs l) (dats l) (i : Int) b.m_Type) 0 = some (.inl ((i + 1 : Nat) : Int)) := by
  have hil := (List.getElem?_eq_some_iff.1 hi).1
  refine iter_eq (fun a : Int => a = 0) (fun _ => 0) _ (fun a ha => ?_) rfl (lt_ROUNDS (by omega))
  subst ha
  right
  simp only [jetsamref12_Order_L3, idx_ok (dat_at hi), idx_ok (typ_at hi), Option.bind_some, jetsamref12_Order_K3]
  rw [if_neg (c := (b.m_Type == 1) = true) (by simpa using h1), ite_self, W_succ _ (by omega)]
  rfl
include hl in
theorem rL2' {i : Nat} {b : blocks_Block} (hi : l[i]? = some b) (h1 : b.m_Type ≠ 1) : iter (jetsamref12_Order_L2 (typs l) (dats l) (i : Int) b.m_Type b.Data) 0 = some (.inl ((i + 1 : Nat) : Int)) := by
  have hil := (List.getElem?_eq_some_iff.1 hi).1
  refine iter_eq (fun a : Int => a = 0) (fun _ => 0) _ (fun a ha => ?_) rfl (lt_ROUNDS (by omega))
  subst ha
  right
  simp only [jetsamref12_Order_L2, idx_ok (dat_at hi), idx_ok (typ_at hi), Option.bind_some, jetsamref12_Order_K3]
  rw [if_neg (c := (b.m_Type == 1) = true) (by simpa using h1), ite_self, W_succ _ (by omega)]
  rfl

include hl hd in
theorem rL1_step {i : Nat} {b : blocks_Block} (hi : l[i]? = some b) : jetsamref12_Order_L1 (typs l) (dats l) (i : Int) = some (if badB b = true then .inr 12 else .inl ((i + 1 : Nat) : Int)) := by
  have hil := (List.getElem?_eq_some_iff.1 hi).1
  have hm : ((b.Data.length : Int).tmod 18) = ((b.Data.length % 18 : Nat) : Int) := by rw [Int.tmod_eq_emod_of_nonneg (by omega)]; omega
  simp only [jetsamref12_Order_L1, idx_ok (dat_at hi), idx_ok (typ_at hi), Option.bind_some, List.length_map, hm]
  rw [if_pos (by simpa using hil)]
  by_cases h2 : b.m_Type = 2
  · have hb : badB b = decide (b.Data.length < 4) := by unfold badB; rw [if_neg (by omega), if_pos h2]
    rw [hb, if_pos (by simpa using h2)]
    by_cases h : b.Data.length < 4
    · rw [if_pos (by simp; omega), if_pos (by simpa using h)]; rfl
    · rw [if_neg (by simp; omega), if_neg (c := (b.m_Type == 3) = true) (by rw [beq_iff_eq]; omega), if_neg (c := decide (b.Data.length < 4) = true) (by simpa using h)]
      exact rL3' l hl hi (by omega)
  rw [if_neg (by simpa using h2)]
  by_cases h3 : b.m_Type = 3
  · have hb : badB b = decide (b.Data.length % 18 ≠ 0) := by unfold badB; rw [if_neg (by omega), if_neg h2, if_pos h3]
    rw [hb, if_pos (by simpa using h3)]
    by_cases h : b.Data.length % 18 = 0
    · rw [if_neg (by rw [h]; decide), if_neg (by simpa using h)]
      exact rL2' l hl hi (by omega)
    · rw [if_pos (by rw [bne_iff_ne]; omega), if_pos (by simpa using h)]; rfl
  rw [if_neg (by simpa using h3)]
  exact rL3 l hl hd hi h2 h3

include hl hd in
theorem rL1 : iter (jetsamref12_Order_L1 (typs l) (dats l)) 0 = some (if l.any badB = true then 12 else 0) := by
  refine iter_eq (fun i : Int => ∃ k : Nat, i = k ∧ k ≤ l.length ∧ (l.take k).any badB = false) (fun i => (l.length - i).toNat) _ (fun i hi => ?_) ⟨0, rfl, by omega, by simp⟩ (lt_ROUNDS (by omega))
  obtain ⟨k, rfl, hk, hn⟩ := hi
  by_cases h : k < l.length
  · obtain ⟨b, e1⟩ : ∃ b, l[k]? = some b := ⟨_, List.getElem?_eq_getElem h⟩
    have ht := anyTake (f := badB) e1
    rw [hn, Bool.false_or] at ht
    rw [rL1_step l hl hd e1]
    cases hb : badB b with
    | true =>
      right
      rw [any_of_take (k := k + 1) (by rw [ht, hb])]
      rfl
    | false =>
      left
      exact ⟨_, rfl, ⟨k + 1, rfl, by omega, by rw [ht, hb]⟩, by omega⟩
  · right
    have : k = l.length := by omega
    subst this
    rw [List.take_length] at hn
    simp only [jetsamref12_Order_L1, List.length_map]
    rw [if_neg (by simp), hn]
    rfl

include hl hd in
theorem rorder_eq : jetsamref12_Order (typs l) (dats l) = some (ordS l) := by
  unfold jetsamref12_Order
  cases l with
  | nil => rfl
  | cons a r =>
    have hS : ordS (a :: r) = if a.m_Type ≠ 0 then 20 else if 1 < (a :: r).countP (·.m_Type == 0) ∨ 1 < (a :: r).countP (·.m_Type == 3) ∨ 1 < (a :: r).countP (·.m_Type == 4) then 19 else if a.Data.length ≠ 34 then 10 else if (a :: r).any badB = true then 12 else 0 := rfl
    rw [if_neg (by rw [beq_iff_eq, List.length_map, List.length_cons]; omega), idx_W (i := 0) (k := 0) (x := a.m_Type) rfl rfl]
    simp only [Option.bind_some]
    by_cases h1 : a.m_Type = 0
    case neg =>
      rw [if_pos h1] at hS
      rw [if_pos (by simpa using h1), hS]
    rw [if_neg (not_not_intro h1)] at hS
    rw [if_neg (by simpa using h1)]
    have hK : jetsamref12_Order_K1 (typs (a :: r)) (dats (a :: r)) () = some (if a.Data.length ≠ 34 then 10 else if (a :: r).any badB = true then 12 else 0) := by
      simp only [jetsamref12_Order_K1]
      rw [idx_W (i := 0) (k := 0) (x := a.Data) rfl rfl]
      simp only [Option.bind_some]
      by_cases h5 : a.Data.length = 34
      case neg => rw [if_pos (by rw [bne_iff_ne]; omega), if_pos h5]
      rw [if_neg (by rw [bne_iff_ne]; omega), if_neg (not_not_intro h5)]
      exact rL1 _ hl hd
    obtain ⟨r', h⟩ := rL6 (a :: r) hl
    rcases h with ⟨h2, h3⟩ | h
    · rw [h2, hS]
      rcases h3 with ⟨h3, rfl⟩ | ⟨h3, h4⟩
      · rw [if_pos ((dup_iff _).1 h3)]
      · rw [if_neg (fun h => h3 ((dup_iff _).2 h)), ← hK, h4]
    · rw [hK] at h; cases h
end

theorem few_of (bs : List blocks_Block) (hl : bs.length ≤ 9223372036854775807) : ∃ r, jetsamlaw12_Few bs = some r ∧ (r = true → bs.length ≤ 12 ∧ ∀ b, b ∈ bs → b.Data.length ≤ 500) := by
  unfold jetsamlaw12_Few
  refine iter_of (fun i : Int => ∃ k : Nat, i = k ∧ k ≤ bs.length ∧ ∀ b, b ∈ bs.take k → b.Data.length ≤ 500) (fun i => (bs.length - i).toNat) _ (fun i hi => ?_) ⟨0, rfl, by omega, by simp⟩ (lt_ROUNDS (by omega))
  obtain ⟨k, rfl, hk, hg⟩ := hi
  simp only [jetsamlaw12_Few_L1]
  by_cases h : k < bs.length
  · have e1 : bs[k]? = some bs[k] := List.getElem?_eq_getElem h
    rw [if_pos (by simpa using h), idx_ok e1]
    simp only [Option.bind_some]
    by_cases h1 : 500 < bs[k].Data.length
    · right
      rw [if_pos (by simp; omega)]
      exact ⟨_, rfl, by simp⟩
    · left
      rw [if_neg (by simp; omega)]
      refine ⟨_, rfl, ⟨k + 1, ?_, by omega, fun b hb => ?_⟩, ?_⟩
      · rw [W_id (by omega) (by omega)]; omega
      · rw [List.take_add_one, e1] at hb
        rcases List.mem_append.1 hb with hb | hb
        · exact hg b hb
        · simp at hb; rw [hb]; omega
      · rw [W_id (by omega) (by omega)]; omega
  · right
    rw [if_neg (by simpa using h)]
    have : k = bs.length := by omega
    subst this
    rw [List.take_length] at hg
    exact ⟨_, rfl, fun hh => ⟨by have := of_decide_eq_true hh; omega, hg⟩⟩

theorem law_BlocksWrites (bs : List blocks_Block) (hl : bs.length ≤ 9223372036854775807) : jetsamlaw12_BlocksWrites bs = some true := by
  unfold jetsamlaw12_BlocksWrites
  obtain ⟨r, h1, h2⟩ := few_of bs hl
  rw [h1]
  simp only [Option.bind_some, awake12]
  cases r with
  | false => rw [if_pos (by simp)]
  | true =>
  obtain ⟨h3, h4⟩ := h2 rfl
  rw [if_neg (by simp), plain_eq bs (by omega)]
  simp only [Option.bind_some]
  have hd : ∀ b, b ∈ bs → b.Data.length ≤ 1000000 := fun b h => by have := h4 b h; omega
  have key : ∃ w, blocks_Write bs = some w ∧ jetsamref12_Write (bs.map (·.m_Type)) (bs.map (·.Data)) = some w ∧ w.1.length ≤ 1000000 := by
    rcases List.eq_nil_or_concat bs with rfl | ⟨m, z, rfl⟩
    · exact ⟨_, write_nil, rwrite_nil, by simp⟩
    rw [List.concat_eq_append] at *
    have hm : m.length ≤ 11 := by simp at h3; omega
    obtain ⟨w, g1, g2⟩ := write_spec m z (by omega)
    obtain ⟨w', g3, g4⟩ := rwrite_spec m z (by omega)
    have := g2.uniq g4
    subst this
    refine ⟨w, g1, g3, ?_⟩
    rcases g2 with ⟨rfl, hg⟩ | ⟨hg, _⟩
    · have hp : ∀ l : List blocks_Block, (∀ b, b ∈ l → b.Data.length ≤ 500) → (pre l).length ≤ l.length * 504 := by
        intro l
        induction l with
        | nil => simp [pre]
        | cons b r ih =>
          intro h
          have h1 := ih (fun x hx => h x (List.mem_cons_of_mem _ hx))
          have h2 := h b (List.mem_cons_self ..)
          have e : pre (b :: r) = encB 0 b ++ pre r := rfl
          rw [e, List.length_append, encB_len, List.length_cons]
          omega
      have h5 := hp m (fun b h => h4 b (by simp [h]))
      have h6 := h4 z (by simp)
      rw [List.length_append, encB_len]; omega
    · rw [hg]; simp
  obtain ⟨w, k1, k2, k3⟩ := key
  rw [k1, k2]
  simp only [Option.bind_some]
  rw [bytes_same _ k3]
  simp only [Option.bind_some]
  rw [if_pos (by simp), order_eq _ (by omega) hd, rorder_eq bs (by omega) hd]
  simp only [Option.bind_some]
  rw [if_pos (by simp)]
end Go.Vg

/- It does not count for their order in what order blocks stand behind the first one. -/
namespace Go.Vg
open Go

theorem ordS_turn (a : blocks_Block) (r : List blocks_Block) (k : Nat) : ordS (a :: (r.drop k ++ r.take k)) = ordS (a :: r) := by
  have hc : ∀ p : blocks_Block → Bool, (a :: (r.drop k ++ r.take k)).countP p = (a :: r).countP p := fun p => by
    rw [List.countP_cons, List.countP_cons, List.countP_append, Nat.add_comm ((r.drop k).countP p), ← List.countP_append, List.take_append_drop]
  have ha : (a :: (r.drop k ++ r.take k)).any badB = (a :: r).any badB := by
    rw [List.any_cons, List.any_cons, List.any_append, Bool.or_comm ((r.drop k).any badB), ← List.any_append, List.take_append_drop]
  simp only [ordS, hc, ha]

theorem turn_at {r : List blocks_Block} {k i : Nat} (hk : k < r.length) (hi : i < r.length) : (r.drop k ++ r.take k)[i]? = r[(k + i) % r.length]? := by
  rw [List.getElem?_append, List.length_drop]
  split
  · rename_i h
    rw [List.getElem?_drop, Nat.mod_eq_of_lt (by omega)]
  · rename_i h
    have : (k + i) % r.length = k + i - r.length := by
      rw [Nat.mod_eq_sub_mod (by omega), Nat.mod_eq_of_lt (by omega)]
    rw [List.getElem?_take, if_pos (by omega), this, show i - (r.length - k) = k + i - r.length by omega]

theorem law_BlocksTurns (bs : List blocks_Block) (from' : Int) (hl : bs.length ≤ 9223372036854775807) : jetsamlaw12_BlocksTurns bs from' = some true := by
  unfold jetsamlaw12_BlocksTurns
  obtain ⟨r, h1, h2⟩ := few_of bs hl
  rw [h1]
  simp only [Option.bind_some, awake12]
  cases r with
  | false => rw [if_pos (by simp)]
  | true =>
  obtain ⟨h3, h4⟩ := h2 rfl
  by_cases hl2 : bs.length < 2
  · rw [if_pos (by simp; omega)]
  rw [if_neg (by simp; omega)]
  have hd : ∀ b, b ∈ bs → b.Data.length ≤ 1000000 := fun b h => by have := h4 b h; omega
  cases bs with
  | nil => simp at hl2
  | cons a r =>
    rw [idx_W (i := 0) (k := 0) (x := a) rfl rfl]
    simp only [Option.bind_some]
    have hr : 1 ≤ r.length ∧ r.length ≤ 11 := by simp at hl2 h3; omega
    have hn : W (((a :: r).length : Int) - 1) = (r.length : Int) := by rw [List.length_cons, W_id (by omega) (by omega)]; omega
    obtain ⟨k, hk, hkn⟩ : ∃ k : Nat, (W (from'.tmod (r.length : Int) + (r.length : Int))).tmod (r.length : Int) = k ∧ k < r.length := by
      have g1 : from'.tmod (r.length : Int) < r.length := Int.tmod_lt_of_pos _ (by omega)
      have g2 : -(r.length : Int) < from'.tmod (r.length : Int) := by
        have := Int.lt_tmod_of_pos from' (show (0 : Int) < r.length by omega)
        omega
      rw [W_id (by omega) (by omega)]
      have g3 : 0 ≤ (from'.tmod (r.length : Int) + (r.length : Int)).tmod (r.length : Int) := by
        rw [Int.tmod_eq_emod_of_nonneg (by omega)]; exact Int.emod_nonneg _ (by omega)
      have g4 : (from'.tmod (r.length : Int) + (r.length : Int)).tmod (r.length : Int) < r.length := Int.tmod_lt_of_pos _ (by omega)
      obtain ⟨k, hk⟩ := Int.eq_ofNat_of_zero_le g3
      exact ⟨k, hk, by omega⟩
    have hlen : (r.drop k ++ r.take k).length = r.length := by rw [List.length_append, List.length_drop, List.length_take]; omega
    refine iter_eq (fun s : Int × List blocks_Block => ∃ i : Nat, s.1 = i ∧ i ≤ r.length ∧ s.2 = a :: (r.drop k ++ r.take k).take i) (fun s => (r.length - s.1).toNat) _ (fun s hs => ?_) ⟨0, rfl, by omega, rfl⟩ (lt_ROUNDS (by simp only; omega))
    obtain ⟨i', v⟩ := s
    obtain ⟨i, rfl, hi, rfl⟩ := hs
    simp only [jetsamlaw12_BlocksTurns_L1, hn, hk]
    have hn0 : (((r.length : Int)) != 0) = true := by rw [bne_iff_ne]; omega
    by_cases h : i < r.length
    · left
      rw [if_pos (by simpa using h), need_ok hn0, need_ok hn0, need_ok hn0]
      have hmod : (W ((k : Int) + (i : Int))).tmod (r.length : Int) = (((k + i) % r.length : Nat) : Int) := by
        rw [W_id (by omega) (by omega), Int.tmod_eq_emod_of_nonneg (by omega), ← Int.natCast_add, Int.natCast_emod]
      have hlt : (k + i) % r.length < r.length := Nat.mod_lt _ (by omega)
      rw [hmod, W_id (x := 1 + (((k + i) % r.length : Nat) : Int)) (by omega) (by omega)]
      obtain ⟨b, hb⟩ : ∃ b, r[(k + i) % r.length]? = some b := ⟨_, List.getElem?_eq_getElem hlt⟩
      have ht := turn_at hkn h
      rw [hb] at ht
      have hb' : (a :: r)[(k + i) % r.length + 1]? = some b := by simpa using hb
      rw [idx_W (k := (k + i) % r.length + 1) (x := b) (by omega) hb']
      simp only [Option.bind_some]
      rw [app_ok (by simp only [List.length_cons, List.length_take, List.length_nil]; omega), W_succ _ (by omega)]
      refine ⟨_, rfl, ⟨i + 1, rfl, by omega, ?_⟩, by simp only; omega⟩
      simp only
      rw [List.take_add_one, ht]
      rfl
    · right
      have : i = r.length := by omega
      subst this
      rw [if_neg (by simp), ← hlen, List.take_length]
      have hmem : ∀ b, b ∈ a :: (r.drop k ++ r.take k) → b.Data.length ≤ 1000000 := fun b hb => hd b (by
        rcases List.mem_cons.1 hb with rfl | hb
        · exact List.mem_cons_self ..
        · rcases List.mem_append.1 hb with hb | hb
          · exact List.mem_cons_of_mem _ (List.mem_of_mem_drop hb)
          · exact List.mem_cons_of_mem _ (List.mem_of_mem_take hb))
      simp only [jetsamlaw12_BlocksTurns_K1]
      rw [order_eq _ (by rw [List.length_cons, hlen]; omega) hmem, order_eq _ (by omega) hd, ordS_turn]
      simp only [Option.bind_some, awake12]
      rw [if_pos (by simp)]
      rfl
end Go.Vg
