/- Bytes and numbers; blocks read and written. -/
import Derived.Test.YtnapnedfhimikaaF1
import Derived.KernelRfl
import Derived.Test.YtnapnedfhimikaaS1
set_option maxRecDepth 4000
set_option linter.all false
set_option linter.unusedVariables false
set_option linter.unusedSimpArgs false
/- Bytes and numbers; two loops that go alike. -/
namespace Go.Vg
open Go

section
variable {α β A B : Type} {f : α → Option (α ⊕ A)} {g : β → Option (β ⊕ B)}
/-- Two loops, round by round. -/
theorem iterN_sim (R : α → β → Prop) (Q : A → B → Prop) (m : α → Nat) (h : ∀ a b, R a b → (∃ a' b', f a = some (.inl a') ∧ g b = some (.inl b') ∧ R a' b' ∧ m a' < m a) ∨ ∃ x y, f a = some (.inr x) ∧ g b = some (.inr y) ∧ Q x y) :
    ∀ (n : Nat) (a : α) (b : β), R a b → m a < n → ∃ x y, iterN f n a = some x ∧ iterN g n b = some y ∧ Q x y
  | 0, a, b, _, hn => by omega
  | n + 1, a, b, hr, hn => by
    rw [iterN_succ, iterN_succ]
    rcases h a b hr with ⟨a', b', h1, h2, h3, h4⟩ | ⟨x, y, h1, h2, h3⟩
    · rw [h1, h2]; exact iterN_sim R Q m h n a' b' h3 (by omega)
    · rw [h1, h2]; exact ⟨x, y, rfl, rfl, h3⟩
theorem iter_sim (R : α → β → Prop) (Q : A → B → Prop) (m : α → Nat) (h : ∀ a b, R a b → (∃ a' b', f a = some (.inl a') ∧ g b = some (.inl b') ∧ R a' b' ∧ m a' < m a) ∨ ∃ x y, f a = some (.inr x) ∧ g b = some (.inr y) ∧ Q x y)
    {a0 : α} {b0 : β} (h0 : R a0 b0) (hm : m a0 < ROUNDS) : ∃ x y, iter f a0 = some x ∧ iter g b0 = some y ∧ Q x y := iterN_sim R Q m h ROUNDS a0 b0 h0 hm
end

def isB (x : Int) : Prop := 0 ≤ x ∧ x < 256
theorem wrap_mod {a b : Int} (h : a % 18446744073709551616 = b % 18446744073709551616) : W a = W b := by
  simp only [W, IntKind.wrap_i64]; omega
theorem or_shl (n x : Int) (hx : isB x) : arD .or .i64 (shD .shl .i64 n 8) x = W (n * 256 + x) := by
  have e1 : shD .shl .i64 n 8 = W (n * 256) := by
    have : (2 : Int) ^ (min (8 : Int).toNat IntKind.i64.bits) = 256 := by decide
    simp only [shD, this]; rfl
  obtain ⟨h0, h1⟩ := hx
  obtain ⟨m, hm⟩ := Int.eq_ofNat_of_zero_le (show 0 ≤ n % 72057594037927936 by omega)
  obtain ⟨y, rfl⟩ := Int.eq_ofNat_of_zero_le h0
  have hA : (BitVec.ofInt 64 (W (n * 256))).toNat = m * 256 := by
    rw [BitVec.toNat_ofInt]
    simp only [W, IntKind.wrap_i64]
    omega
  have hB : (BitVec.ofInt 64 (y : Int)).toNat = y := by rw [BitVec.toNat_ofInt]; omega
  have hor : (m * 256) ||| y = m * 256 + y := by
    have := Nat.shiftLeft_add_eq_or_of_lt (b := y) (i := 8) (by omega) m
    rw [Nat.shiftLeft_eq] at this
    exact this.symm
  show IntKind.i64.wrap ((BitVec.ofInt 64 (shD .shl .i64 n 8) ||| BitVec.ofInt 64 (y : Int)).toNat : Int) = _
  rw [e1, BitVec.toNat_or, hA, hB, hor]
  exact wrap_mod (by omega)

/-- The number that bytes are, of 64 bits. -/
def numW (l : List Int) : Int := l.foldl (fun n x => W (n * 256 + x)) 0
theorem number_eq {l : List Int} (hl : l.length ≤ 1000000) (hb : ∀ x, x ∈ l → isB x) : blocks_number l = some (numW l) := by
  unfold blocks_number
  refine iter_eq (fun a : Int × Int => ∃ k : Nat, a.2 = k ∧ k ≤ l.length ∧ a.1 = numW (l.take k)) (fun a => (l.length - a.2).toNat) _ (fun a ha => ?_) ⟨0, rfl, by omega, rfl⟩ (lt_ROUNDS (by simp only; omega))
  obtain ⟨v, k'⟩ := a
  obtain ⟨k, rfl, hk, rfl⟩ := ha
  simp only [blocks_number_L1]
  by_cases h : k < l.length
  · left
    have e1 : l[k]? = some l[k] := List.getElem?_eq_getElem h
    rw [if_pos (by simpa using h), idx_ok e1, Option.bind_some, or_shl _ _ (hb _ (List.getElem_mem h))]
    refine ⟨_, rfl, ⟨k + 1, ?_, by omega, ?_⟩, ?_⟩
    · simp only; rw [W_id (by omega) (by omega)]; omega
    · rw [List.take_add_one, e1]; simp only [numW, Option.toList_some, List.foldl_append, List.foldl_cons, List.foldl_nil]
    · simp only; rw [W_id (by omega) (by omega)]; omega
  · right
    rw [if_neg (by simpa using h)]
    have : k = l.length := by omega
    subst this
    rw [List.take_length]
    rfl
theorem num3 {x y z : Int} (hx : isB x) (hy : isB y) (hz : isB z) : numW [x, y, z] = x * 65536 + y * 256 + z := by
  unfold isB at *
  simp only [numW, List.foldl_cons, List.foldl_nil]
  rw [W_id (x := 0 * 256 + x) (by omega) (by omega), W_id (x := (0 * 256 + x) * 256 + y) (by omega) (by omega), W_id (by omega) (by omega)]
  omega

theorem bytes_same (l : List Int) (hl : l.length ≤ 1000000) : jetsamlaw11_Bytes l l = some true := by
  unfold jetsamlaw11_Bytes
  rw [if_neg (by simp)]
  refine iter_eq (fun i : Int => ∃ k : Nat, i = k ∧ k ≤ l.length) (fun i => (l.length - i).toNat) _ (fun i hi => ?_) ⟨0, rfl, by omega⟩ (lt_ROUNDS (by omega))
  obtain ⟨k, rfl, hk⟩ := hi
  simp only [jetsamlaw11_Bytes_L1]
  by_cases h : k < l.length
  · left
    have e1 : l[k]? = some l[k] := List.getElem?_eq_getElem h
    rw [if_pos (by simpa using h), idx_ok e1, Option.bind_some, Option.bind_some, if_neg (by simp)]
    refine ⟨_, rfl, ⟨k + 1, ?_, by omega⟩, ?_⟩
    · rw [W_id (by omega) (by omega)]; omega
    · rw [W_id (by omega) (by omega)]; omega
  · right
    rw [if_neg (by simpa using h)]
    rfl
theorem sub_nat {α : Type} {l : List α} {i j : Int} {a b : Nat} (hi : i = a) (hj : j = b) (h : a ≤ b) (h' : b ≤ l.length) : sub l i j = some ((l.drop a).take (b - a)) := by
  subst hi; subst hj; exact sub_ok h h'
theorem three {l : List Int} {k : Nat} (h : k + 3 ≤ l.length) : ∃ x y z, (l.drop k).take 3 = [x, y, z] ∧ l[k]? = some x ∧ l[k + 1]? = some y ∧ l[k + 2]? = some z := by
  have e0 : l[k]? = some l[k] := List.getElem?_eq_getElem (by omega)
  have e1 : l[k + 1]? = some l[k + 1] := List.getElem?_eq_getElem (by omega)
  have e2 : l[k + 2]? = some l[k + 2] := List.getElem?_eq_getElem (by omega)
  refine ⟨_, _, _, ?_, e0, e1, e2⟩
  rw [List.drop_eq_getElem_cons (by omega), List.take_succ_cons, List.drop_eq_getElem_cons (by omega), List.take_succ_cons, List.drop_eq_getElem_cons (by omega), List.take_succ_cons]
  rfl
end Go.Vg

/- Which blocks bytes begin with: two readers that go alike. -/
namespace Go.Vg
open Go

theorem clone_ok {l : List Int} (h : l.length ≤ 1000000) : slices_Clone_sbyte_byte l = some l := by
  unfold slices_Clone_sbyte_byte
  rw [app_ok (by simp; omega)]
  rfl
theorem tmod_nat (p : Int) (h : isB p) : p.tmod 128 = p % 128 := by
  obtain ⟨h0, _⟩ := h
  exact Int.tmod_eq_emod_of_nonneg h0
/-- Reading a block at a place, with what it needs there. -/
theorem idx_W {α : Type} {l : List α} {i : Int} {k : Nat} {x : α} (hk : i = k) (h : l[k]? = some x) : idx l i = some x := by subst hk; exact idx_ok h

def readR (y : List Int) (a : Int × List blocks_Block) (b : Int × List Int × List (List Int)) : Prop :=
  ∃ k : Nat, a.1 = k ∧ k ≤ y.length ∧ b = (a.1, a.2.map (·.m_Type), a.2.map (·.Data)) ∧ a.2.length ≤ k ∧ ∀ x, x ∈ a.2 → x.Data.length ≤ 1000
def readQ (x : List blocks_Block × Int × Int) (y : List Int × List (List Int) × Int × Int) : Prop :=
  y = (x.1.map (·.m_Type), x.1.map (·.Data), x.2.1, x.2.2) ∧ x.1.length ≤ 1000 ∧ ∀ b, b ∈ x.1 → b.Data.length ≤ 1000

theorem read_sim (y : List Int) (hy : y.length ≤ 1000) (hb : ∀ x, x ∈ y → isB x) : ∃ u v, blocks_Read y = some u ∧ jetsamref12_Read y = some v ∧ readQ u v := by
  unfold blocks_Read jetsamref12_Read
  refine iter_sim (readR y) readQ (fun a => (y.length - a.1).toNat) (fun a b hab => ?_) ⟨0, rfl, by omega, rfl, by simp, by simp⟩ (lt_ROUNDS (by simp only; omega))
  obtain ⟨ka, bs⟩ := a
  obtain ⟨k, hk, hk', rfl, hl, hd⟩ := hab
  simp only at hk hl hd
  subst hk
  have w1 : W ((y.length : Int) - k) = (y.length : Int) - k := W_id (by omega) (by omega)
  have w2 : W ((y.length : Int) - k - 4) = (y.length : Int) - k - 4 := W_id (by omega) (by omega)
  have w4 : W ((k : Int) + 4) = ((k + 4 : Nat) : Int) := by rw [W_id (by omega) (by omega)]; omega
  have v1 : W ((k : Int) + 1) = ((k + 1 : Nat) : Int) := by rw [W_id (by omega) (by omega)]; omega
  have v2 : W ((k : Int) + 2) = ((k + 2 : Nat) : Int) := by rw [W_id (by omega) (by omega)]; omega
  have v3 : W ((k : Int) + 3) = ((k + 3 : Nat) : Int) := by rw [W_id (by omega) (by omega)]; omega
  simp only [blocks_Read_L1, jetsamref12_Read_L1, w1, w2, w4, v1, v2, v3]
  by_cases h4 : y.length < k + 4
  · right
    rw [if_pos (by simp; omega), if_pos (by simp; omega)]
    exact ⟨_, _, rfl, rfl, rfl, by simp, by simp⟩
  rw [if_neg (by simp; omega), if_neg (by simp; omega)]
  obtain ⟨b1, b2, b3, hs, g1, g2, g3⟩ := three (l := y) (k := k + 1) (by omega)
  have g0 : y[k]? = some y[k] := List.getElem?_eq_getElem (by omega)
  generalize y[k] = p at g0
  have i0 : isB p := hb _ (List.mem_of_getElem? g0)
  have i1 : isB b1 := hb _ (List.mem_of_getElem? g1)
  have i2 : isB b2 := hb _ (List.mem_of_getElem? g2)
  have i3 : isB b3 := hb _ (List.mem_of_getElem? g3)
  have hn : blocks_number [b1, b2, b3] = some (b1 * 65536 + b2 * 256 + b3) := by
    rw [number_eq (by simp) (by simp; exact ⟨i1, i2, i3⟩), num3 i1 i2 i3]
  have hbb : 0 ≤ b1 * 65536 + b2 * 256 + b3 ∧ b1 * 65536 + b2 * 256 + b3 < 16777216 ∧ 0 ≤ b1 ∧ b1 < 256 ∧ 0 ≤ b2 ∧ b2 < 256 ∧ 0 ≤ b3 ∧ b3 < 256 := by unfold isB at *; omega
  have wn : W (W (W (b1 * 65536) + W (b2 * 256)) + b3) = b1 * 65536 + b2 * 256 + b3 := by
    rw [W_id (x := b1 * 65536) (by omega) (by omega), W_id (x := b2 * 256) (by omega) (by omega), W_id (x := b1 * 65536 + b2 * 256) (by omega) (by omega), W_id (by omega) (by omega)]
  rw [sub_nat (l := y) rfl rfl (by omega) (by omega), show k + 4 - (k + 1) = 3 by omega, hs]
  simp only [Option.bind_some, idx_ok g0, idx_ok g1, idx_ok g2, idx_ok g3, hn, wn]
  obtain ⟨n, hnn⟩ := Int.eq_ofNat_of_zero_le hbb.1
  rw [hnn] at hbb ⊢
  have w5 : W (((k + 4 : Nat) : Int) + (n : Int)) = ((k + 4 + n : Nat) : Int) := by rw [W_id (by omega) (by omega)]; omega
  simp only [w5]
  by_cases h5 : y.length < k + 4 + n
  · right
    rw [if_pos (c := decide ((y.length : Int) - k - 4 < n) = true) (by simp; omega), if_pos (c := decide (((k + 4 + n : Nat) : Int) > y.length) = true) (by simp; omega)]
    exact ⟨_, _, rfl, rfl, rfl, by simp, by simp⟩
  rw [if_neg (c := decide ((y.length : Int) - k - 4 < n) = true) (by simp; omega), if_neg (c := decide (((k + 4 + n : Nat) : Int) > y.length) = true) (by simp; omega)]
  rw [tmod_nat p i0]
  by_cases h6 : p % 128 = 127
  · right
    have e7 : p = 127 ∨ p = 255 := by unfold isB at i0; omega
    have c7 : (if (p == 127) = true then true else (p == 255)) = true := by rcases e7 with rfl | rfl <;> rfl
    rw [if_pos (c := (p % 128 == 127) = true) (by simpa using h6), if_pos c7]
    exact ⟨_, _, rfl, rfl, rfl, by simp, by simp⟩
  have c7 : ¬(if (p == 127) = true then true else (p == 255)) = true := by
    have : p ≠ 127 ∧ p ≠ 255 := by unfold isB at i0; omega
    simp [this.1, this.2]
  rw [if_neg (c := (p % 128 == 127) = true) (by simpa using h6), if_neg c7]
  rw [sub_nat (l := y) rfl rfl (by omega) (by omega)]
  have hlen : ((y.drop (k + 4)).take (k + 4 + n - (k + 4))).length ≤ 1000 := by rw [List.length_take, List.length_drop]; omega
  generalize (y.drop (k + 4)).take (k + 4 + n - (k + 4)) = d at hlen
  simp only [Option.bind_some, clone_ok (show d.length ≤ 1000000 by omega)]
  rw [app_ok (by simp; omega), app_ok (l := []) (by simp; omega), app_ok (by simp; omega)]
  simp only [Option.bind_some]
  rw [app_ok (by simp; omega)]
  simp only [Option.bind_some, List.nil_append]
  have hd' : ∀ x, x ∈ bs ++ [(⟨p % 128, d⟩ : blocks_Block)] → x.Data.length ≤ 1000 := fun x hx => by
    rcases List.mem_append.1 hx with hx | hx
    · exact hd x hx
    · rw [List.mem_singleton.1 hx]; exact hlen
  by_cases h7 : 128 ≤ p
  · right
    rw [if_pos (by simpa using h7), if_pos (by simp; omega)]
    exact ⟨_, _, rfl, rfl, by simp, by simp; omega, hd'⟩
  · left
    rw [if_neg (by simpa using h7), if_neg (by simp; omega)]
    exact ⟨_, _, rfl, rfl, ⟨k + 4 + n, rfl, by omega, by simp, by simp; omega, hd'⟩, by simp only; omega⟩

theorem plain_eq (l : List blocks_Block) (hl : l.length ≤ 1000000) : jetsamlaw12_Plain l = some (l.map (·.m_Type), l.map (·.Data)) := by
  unfold jetsamlaw12_Plain
  refine iter_eq (fun a : Int × List Int × List (List Int) => ∃ k : Nat, a.1 = k ∧ k ≤ l.length ∧ a.2 = ((l.take k).map (·.m_Type), (l.take k).map (·.Data))) (fun a => (l.length - a.1).toNat) _ (fun a ha => ?_) ⟨0, rfl, by omega, rfl⟩ (lt_ROUNDS (by simp only; omega))
  obtain ⟨k', a⟩ := a
  obtain ⟨k, rfl, hk, rfl⟩ := ha
  simp only [jetsamlaw12_Plain_L1]
  by_cases h : k < l.length
  · left
    have e1 : l[k]? = some l[k] := List.getElem?_eq_getElem h
    rw [if_pos (by simpa using h), idx_ok e1]
    simp only [Option.bind_some]
    rw [app_ok (by simp; omega)]
    simp only [Option.bind_some]
    rw [app_ok (by simp; omega)]
    refine ⟨_, rfl, ⟨k + 1, ?_, by omega, ?_⟩, ?_⟩
    · simp only; rw [W_id (by omega) (by omega)]; omega
    · simp only; rw [List.take_add_one, e1, Option.toList_some, List.map_append, List.map_append]; rfl
    · simp only; rw [W_id (by omega) (by omega)]; omega
  · right
    rw [if_neg (by simpa using h)]
    have : k = l.length := by omega
    subst this
    rw [List.take_length]
    rfl

theorem law_BlocksReads (y : List Int) (hb : ∀ x, x ∈ y → isB x) : jetsamlaw12_BlocksReads y = some true := by
  unfold jetsamlaw12_BlocksReads
  simp only [awake12, Option.bind_some]
  by_cases hl : y.length ≤ 1000
  case neg => rw [if_pos (by simp; omega)]
  rw [if_neg (by simp; omega)]
  obtain ⟨⟨bs, at', er⟩, v, h1, h2, rfl, h3, h4⟩ := read_sim y hl hb
  rw [h1, h2]
  simp only [Option.bind_some]
  simp only at h3 h4
  rw [plain_eq bs (by omega)]
  simp only [Option.bind_some]
  rw [if_neg (by simp)]
  refine iter_eq (fun i : Int => ∃ k : Nat, i = k ∧ k ≤ bs.length) (fun i => (bs.length - i).toNat) _ (fun i hi => ?_) ⟨0, rfl, by omega⟩ (lt_ROUNDS (by omega))
  obtain ⟨k, rfl, hk⟩ := hi
  simp only [jetsamlaw12_BlocksReads_L1, List.length_map]
  by_cases h : k < bs.length
  · left
    have e1 : (bs.map (·.m_Type))[k]? = some bs[k].m_Type := by rw [List.getElem?_map, List.getElem?_eq_getElem h]; rfl
    have e2 : (bs.map (·.Data))[k]? = some bs[k].Data := by rw [List.getElem?_map, List.getElem?_eq_getElem h]; rfl
    rw [if_pos (by simpa using h), idx_ok e1, idx_ok e2]
    simp only [Option.bind_some]
    rw [if_neg (by simp), bytes_same _ (by have := h4 _ (List.getElem_mem h); omega)]
    simp only [Option.bind_some]
    rw [if_neg (by simp)]
    refine ⟨_, rfl, ⟨k + 1, ?_, by omega⟩, ?_⟩
    · rw [W_id (by omega) (by omega)]; omega
    · rw [W_id (by omega) (by omega)]; omega
  · right
    rw [if_neg (by simpa using h)]
    simp only [jetsamlaw12_BlocksReads_K1, awake12]
    rfl
end Go.Vg

/- Bytes of numbers; blocks written, and read. -/
namespace Go.Vg
open Go

theorem iter_n {α A : Type} {f : α → Option (α ⊕ A)} {a : α} {r : A} (n : Nat) (hn : n ≤ 1000000) (h : iterN f n a = some r) : iter f a = some r := iterN_mono (by unfold ROUNDS; omega) h

/-- A number's byte. -/
def byt (n : Int) (s : Nat) : Int := n / 2 ^ s % 256
theorem byt_eq (n : Int) (s : Nat) (hs : s ≤ 64) : IntKind.u8.wrap (shD .shr .i64 n (s : Int)) = byt n s := by
  have e : min (s : Int).toNat IntKind.i64.bits = s := by show min s 64 = s; omega
  simp only [shD, e]
  rw [Int.fdiv_eq_ediv_of_nonneg _ (by exact Int.le_of_lt (Int.pow_pos (by decide))), IntKind.wrap_u8]
  rfl
theorem byt_isB (n : Int) (s : Nat) : isB (byt n s) := by
  unfold isB byt; omega
def hdr (n : Int) : List Int := [byt n 16, byt n 8, byt n 0]
theorem big3 (n : Int) : blocks_big n 3 = some (hdr n) := by
  have h : blocks_big n 3 = some [IntKind.u8.wrap (shD .shr .i64 n (16 : Nat)), IntKind.u8.wrap (shD .shr .i64 n (8 : Nat)), IntKind.u8.wrap (shD .shr .i64 n (0 : Nat))] := by
    unfold blocks_big
    rw [show mks 1 3 (0 : Int) = some [0, 0, 0] from rfl]
    exact iter_n 4 (by omega) rfl
  rw [h, byt_eq _ _ (by omega), byt_eq _ _ (by omega), byt_eq _ _ (by omega)]
  rfl
theorem hdr_num {n : Int} (h0 : 0 ≤ n) (h1 : n < 16777216) : byt n 16 * 65536 + byt n 8 * 256 + byt n 0 = n := by
  show n / 65536 % 256 * 65536 + n / 256 % 256 * 256 + n / 1 % 256 = n
  omega
theorem hdr_of {a b c n : Int} (ha : isB a) (hb : isB b) (hc : isB c) (h : a * 65536 + b * 256 + c = n) : hdr n = [a, b, c] := by
  unfold isB at *
  have e1 : byt n 16 = a := by show n / 65536 % 256 = a; omega
  have e2 : byt n 8 = b := by show n / 256 % 256 = b; omega
  have e3 : byt n 0 = c := by show n / 1 % 256 = c; omega
  simp only [hdr, e1, e2, e3]
theorem hdr_len (n : Int) : (hdr n).length = 3 := rfl

/-- Lists put behind each other. -/
theorem concat_eq (ls : List (List Int)) (hl : ls.length ≤ 1000000) (hn : ls.flatten.length ≤ 140737488355328) : slices_Concat_sbyte_byte ls = some ls.flatten := by
  have htake : ∀ k, (ls.take k).flatten.length ≤ ls.flatten.length := fun k => by
    have : ls.flatten = (ls.take k).flatten ++ (ls.drop k).flatten := by rw [← List.flatten_append, List.take_append_drop]
    rw [this, List.length_append]; omega
  have hsnoc : ∀ k x, ls[k]? = some x → (ls.take (k + 1)).flatten = (ls.take k).flatten ++ x := fun k x h => by
    rw [List.take_add_one, h]; simp
  unfold slices_Concat_sbyte_byte
  refine iter_eq (fun a : Int × Int => ∃ k : Nat, a.2 = k ∧ k ≤ ls.length ∧ a.1 = (ls.take k).flatten.length) (fun a => (ls.length - a.2).toNat) _ (fun a ha => ?_) ⟨0, rfl, by omega, rfl⟩ (lt_ROUNDS (by simp only; omega))
  obtain ⟨v, k'⟩ := a
  obtain ⟨k, rfl, hk, hv⟩ := ha
  simp only at hv
  subst hv
  simp only [slices_Concat_sbyte_byte_L2]
  by_cases h : k < ls.length
  · left
    have e1 : ls[k]? = some ls[k] := List.getElem?_eq_getElem h
    have es := hsnoc k _ e1
    have hs : (ls.take (k + 1)).flatten.length = (ls.take k).flatten.length + ls[k].length := by rw [es, List.length_append]
    have hle := htake (k + 1)
    rw [if_pos (by simpa using h), idx_ok e1]
    simp only [Option.bind_some]
    have hw : W (((ls.take k).flatten.length : Int) + (ls[k].length : Int)) = ((ls.take (k + 1)).flatten.length : Int) := by rw [W_id (by omega) (by omega)]; omega
    rw [hw, if_neg (by simp)]
    refine ⟨_, rfl, ⟨k + 1, ?_, by omega, rfl⟩, ?_⟩
    · simp only; rw [W_id (by omega) (by omega)]; omega
    · simp only; rw [W_id (by omega) (by omega)]; omega
  · right
    rw [if_neg (by simpa using h)]
    have : k = ls.length := by omega
    subst this
    rw [List.take_length]
    have hg : growF (ls.flatten.length : Int) = some [] := by unfold growF; rw [if_pos (by omega)]
    unfold slices_Concat_sbyte_byte_K1
    rw [hg]
    simp only [Option.bind_some]
    refine congrArg (Option.map Sum.inr) (a₂ := some ls.flatten) (iter_eq (fun a : Int × List Int => ∃ k : Nat, a.1 = k ∧ k ≤ ls.length ∧ a.2 = (ls.take k).flatten) (fun a => (ls.length - a.1).toNat) _ (fun a ha => ?_) ⟨0, rfl, by omega, rfl⟩ (lt_ROUNDS (by simp only; omega)))
    obtain ⟨k', v⟩ := a
    obtain ⟨k, rfl, hk, hv⟩ := ha
    simp only at hv
    subst hv
    simp only [slices_Concat_sbyte_byte_L1]
    by_cases h : k < ls.length
    · left
      have e1 : ls[k]? = some ls[k] := List.getElem?_eq_getElem h
      have es := hsnoc k _ e1
      have hs : (ls.take (k + 1)).flatten.length = (ls.take k).flatten.length + ls[k].length := by rw [es, List.length_append]
      have hle := htake (k + 1)
      rw [if_pos (by simpa using h), idx_ok e1]
      simp only [Option.bind_some]
      rw [app_ok (by omega)]
      simp only [Option.bind_some]
      refine ⟨_, rfl, ⟨k + 1, ?_, by omega, es.symm⟩, ?_⟩
      · simp only; rw [W_id (by omega) (by omega)]; omega
      · simp only; rw [W_id (by omega) (by omega)]; omega
    · right
      rw [if_neg (by simpa using h)]
      have : k = ls.length := by omega
      subst this
      rw [List.take_length]
      rfl

/-- A block's bytes; 'm': 128 where it is the last one. -/
def encB (m : Int) (b : blocks_Block) : List Int := (b.m_Type + m) :: (hdr b.Data.length ++ b.Data)
def pre (l : List blocks_Block) : List Int := (l.map (encB 0)).flatten
def good (b : blocks_Block) : Prop := 0 ≤ b.m_Type ∧ b.m_Type < 127 ∧ b.Data.length ≤ 16777215
theorem encB_len (m : Int) (b : blocks_Block) : (encB m b).length = b.Data.length + 4 := by
  simp only [encB, List.length_cons, List.length_append, hdr_len]; omega
theorem pre_snoc {l : List blocks_Block} {k : Nat} {b : blocks_Block} (h : l[k]? = some b) : pre (l.take (k + 1)) = pre (l.take k) ++ encB 0 b := by
  simp only [pre]
  rw [List.take_add_one, h, List.map_append, List.flatten_append]; simp
theorem pre_len : ∀ (l : List blocks_Block), (∀ b, b ∈ l → good b) → (pre l).length ≤ l.length * 16777219
  | [], _ => by simp [pre]
  | b :: r, h => by
    have h1 := pre_len r (fun x hx => h x (List.mem_cons_of_mem _ hx))
    have h2 := (h b (List.mem_cons_self ..)).2.2
    have e : pre (b :: r) = encB 0 b ++ pre r := rfl
    rw [e, List.length_append, encB_len, List.length_cons]
    omega

theorem write_nil : blocks_Write [] = some ([], 20) := rfl
/-- What is written. -/
theorem write_of (m : List blocks_Block) (z : blocks_Block) (hm : m.length ≤ 1000) :
    ∃ r, blocks_Write (m ++ [z]) = some r ∧ ((r = (pre m ++ encB 128 z, 0) ∧ ∀ b, b ∈ m ++ [z] → good b) ∨ (r.2 ≠ 0 ∧ ∃ b, b ∈ m ++ [z] ∧ ¬good b)) := by
  generalize hl : m ++ [z] = l
  have hlen : l.length = m.length + 1 := by rw [← hl]; simp
  have hz : l[m.length]? = some z := by rw [← hl]; simp
  have hmk : ∀ k, k ≤ m.length → l.take k = m.take k := fun k hk => by rw [← hl, List.take_append_of_le_length hk]
  unfold blocks_Write
  rw [if_neg (by rw [beq_iff_eq]; omega)]
  refine iter_of (fun a : List Int × Int => ∃ k : Nat, a.2 = k ∧ k ≤ l.length ∧ (∀ b, b ∈ l.take k → good b) ∧ ((k ≤ m.length ∧ a.1 = pre (l.take k)) ∨ (k = l.length ∧ a.1 = pre m ++ encB 128 z))) (fun a => (l.length - a.2).toNat) _ (fun a ha => ?_) ⟨0, rfl, by omega, by simp, .inl ⟨by omega, rfl⟩⟩ (lt_ROUNDS (by simp only; omega))
  obtain ⟨out, k'⟩ := a
  obtain ⟨k, rfl, hk, hg, ho⟩ := ha
  simp only at ho
  simp only [blocks_Write_L1]
  by_cases h : k < l.length
  case neg =>
    right
    rw [if_neg (by simpa using h)]
    have : k = l.length := by omega
    subst this
    rw [List.take_length] at hg
    rcases ho with ⟨ho, _⟩ | ⟨_, rfl⟩
    · omega
    · exact ⟨_, rfl, .inl ⟨rfl, hg⟩⟩
  have ho : k ≤ m.length ∧ out = pre (l.take k) := by
    rcases ho with ho | ⟨ho, _⟩
    · exact ho
    · omega
  obtain ⟨hkm, rfl⟩ := ho
  have e1 : l[k]? = some l[k] := List.getElem?_eq_getElem h
  have hmem : l[k] ∈ l := List.getElem_mem h
  have wk : W ((k : Int) + 1) = ((k + 1 : Nat) : Int) := by rw [W_id (by omega) (by omega)]; omega
  have wl : W ((l.length : Int) - 1) = (m.length : Int) := by rw [W_id (by omega) (by omega)]; omega
  have hsn := pre_snoc e1
  have hpl := pre_len (l.take k) hg
  have htl : (l.take k).length ≤ 1000 := by rw [List.length_take]; omega
  have hgs : good l[k] → ∀ b, b ∈ l.take (k + 1) → good b := fun hgk b hb => by
    rw [List.take_add_one, e1] at hb
    rcases List.mem_append.1 hb with hb | hb
    · exact hg b hb
    · simp at hb; rw [hb]; exact hgk
  have hbad : ¬good l[k] → ∃ b, b ∈ l ∧ ¬good b := fun hn => ⟨_, hmem, hn⟩
  have hlast : k = m.length → l[k] = z := fun hh => by
    subst hh; rw [e1] at hz; exact Option.some.inj hz
  rw [if_pos (by simpa using h), idx_ok e1]
  simp only [Option.bind_some, wl]
  generalize l[k] = b at *
  by_cases h1 : b.m_Type < 0 ∨ 127 ≤ b.m_Type
  · right
    rw [if_pos (by rcases h1 with h1 | h1 <;> simp [h1])]
    exact ⟨_, rfl, .inr ⟨by simp, hbad (fun hgd => by unfold good at hgd; omega)⟩⟩
  rw [if_neg (by simp; omega)]
  by_cases h2 : 16777215 < b.Data.length
  · right
    rw [if_pos (by simp; omega)]
    exact ⟨_, rfl, .inr ⟨by simp, hbad (fun hgd => by unfold good at hgd; omega)⟩⟩
  rw [if_neg (by simp; omega)]
  have hgk : good b := ⟨by omega, by omega, by omega⟩
  have hcon : ∀ t : Int, isB t → slices_Concat_sbyte_byte [pre (l.take k), [IntKind.u8.wrap t], hdr b.Data.length, b.Data] = some (pre (l.take k) ++ (t :: (hdr b.Data.length ++ b.Data))) := fun t ht => by
    have ew : IntKind.u8.wrap t = t := by rw [IntKind.wrap_u8]; unfold isB at ht; omega
    rw [concat_eq _ (by simp) ?_, ew]
    · simp
    · simp only [List.flatten_cons, List.length_append, List.flatten_nil, List.length_nil, List.length_singleton, hdr_len]
      omega
  left
  by_cases h3 : k = m.length
  · have hb := hlast h3
    subst hb
    rw [if_pos (by rw [beq_iff_eq]; omega)]
    have w3 : W (b.m_Type + 128) = b.m_Type + 128 := W_id (by omega) (by omega)
    simp only [blocks_Write_K2, w3, wk, big3, Option.bind_some]
    rw [hcon _ (by unfold isB; omega)]
    refine ⟨_, rfl, ⟨k + 1, rfl, by omega, hgs hgk, .inr ⟨by omega, ?_⟩⟩, by simp only; omega⟩
    simp only
    rw [hmk k hkm, h3, List.take_length]
    rfl
  · rw [if_neg (by rw [beq_iff_eq]; omega)]
    simp only [blocks_Write_K2, wk, big3, Option.bind_some]
    rw [hcon _ (by unfold isB; omega)]
    refine ⟨_, rfl, ⟨k + 1, rfl, by omega, hgs hgk, .inl ⟨by omega, ?_⟩⟩, by simp only; omega⟩
    simp only
    rw [hsn, encB, Int.add_zero]
end Go.Vg

/- Read of Write is the blocks, and Write of Read the bytes. -/
namespace Go.Vg
open Go

/-- A round of the reader, at a block's head. -/
theorem readStep {D T : List Int} {k : Nat} {p b1 b2 b3 : Int} {n : Nat} {bs : List blocks_Block} (hD : D.length ≤ 1000000000) (hT : D.drop k = p :: b1 :: b2 :: b3 :: T) (h0 : isB p) (h1 : isB b1) (h2 : isB b2) (h3 : isB b3) (hn : b1 * 65536 + b2 * 256 + b3 = n) (hbs : bs.length ≤ 1000000) :
    blocks_Read_L1 D ((k : Int), bs) = if T.length < n then some (.inr ([], 0, 11)) else if p % 128 = 127 then some (.inr ([], 0, 13)) else if 128 ≤ p then some (.inr (bs ++ [⟨p % 128, T.take n⟩], ((k + 4 + n : Nat) : Int), 0)) else some (.inl (((k + 4 + n : Nat) : Int), bs ++ [⟨p % 128, T.take n⟩])) := by
  have hlen : k + 4 + T.length = D.length := by
    have := congrArg List.length hT
    simp only [List.length_drop, List.length_cons] at this
    omega
  have w1 : W ((D.length : Int) - k) = (D.length : Int) - k := W_id (by omega) (by omega)
  have w2 : W ((D.length : Int) - k - 4) = (D.length : Int) - k - 4 := W_id (by omega) (by omega)
  have w4 : W ((k : Int) + 4) = ((k + 4 : Nat) : Int) := by rw [W_id (by omega) (by omega)]; omega
  have v1 : W ((k : Int) + 1) = ((k + 1 : Nat) : Int) := by rw [W_id (by omega) (by omega)]; omega
  have g0 : D[k]? = some p := by rw [← List.head?_drop, hT]; rfl
  have hd1 : D.drop (k + 1) = b1 :: b2 :: b3 :: T := by rw [← List.drop_drop, hT]; rfl
  have hd4 : D.drop (k + 4) = T := by rw [← List.drop_drop, hT]; rfl
  have hs : (D.drop (k + 1)).take 3 = [b1, b2, b3] := by rw [hd1]; rfl
  have hnum : blocks_number [b1, b2, b3] = some (n : Int) := by
    rw [number_eq (by simp) (by simp; exact ⟨h1, h2, h3⟩), num3 h1 h2 h3, hn]
  have hnb : n < 16777216 := by unfold isB at *; omega
  have w5 : W (((k + 4 : Nat) : Int) + (n : Int)) = ((k + 4 + n : Nat) : Int) := by rw [W_id (by omega) (by omega)]; omega
  split
  · rename_i h5
    simp only [blocks_Read_L1, w1, w2, w4, v1]
    rw [if_neg (by simp; omega), idx_ok g0, sub_nat (l := D) rfl rfl (by omega) (by omega), show k + 4 - (k + 1) = 3 by omega, hs]
    simp only [Option.bind_some, hnum]
    rw [if_pos (by simp; omega)]
    rfl
  rename_i h5
  split
  · rename_i h6
    simp only [blocks_Read_L1, w1, w2, w4, v1]
    rw [if_neg (by simp; omega), idx_ok g0, sub_nat (l := D) rfl rfl (by omega) (by omega), show k + 4 - (k + 1) = 3 by omega, hs]
    simp only [Option.bind_some, hnum, tmod_nat p h0]
    rw [if_neg (by simp; omega), if_pos (by simpa using h6)]
    rfl
  rename_i h6
  have hclone : slices_Clone_sbyte_byte (T.take n) = some (T.take n) := by
    unfold slices_Clone_sbyte_byte
    rw [app_ok (by simp; omega)]; rfl
  simp only [blocks_Read_L1, w1, w2, w4, v1]
  rw [if_neg (by simp; omega), idx_ok g0, sub_nat (l := D) rfl rfl (by omega) (by omega), show k + 4 - (k + 1) = 3 by omega, hs]
  simp only [Option.bind_some, hnum, tmod_nat p h0, w5]
  rw [if_neg (by simp; omega), if_neg (by simpa using h6), sub_nat (l := D) rfl rfl (by omega) (by omega), hd4, show k + 4 + n - (k + 4) = n by omega]
  simp only [Option.bind_some, hclone]
  rw [app_ok (by simp; omega)]
  simp only [Option.bind_some]
  split
  · rename_i h8
    rw [if_pos (by simpa using h8)]; rfl
  · rename_i h8
    rw [if_neg (by simpa using h8)]

/-- What stands ahead is read, block by block. -/
theorem read_pre (m : List blocks_Block) (X : List Int) (r : List blocks_Block × Int × Int) (hg : ∀ b, b ∈ m → good b) (hb : ∀ b, b ∈ m → ∀ x, x ∈ b.Data → isB x) (hm : m.length ≤ 1000) (hD : (pre m ++ X).length ≤ 1000000000)
    (hr : blocks_Read_L1 (pre m ++ X) (((pre m).length : Int), m) = some (.inr r)) : blocks_Read (pre m ++ X) = some r := by
  unfold blocks_Read
  refine iter_eq (fun a : Int × List blocks_Block => ∃ k : Nat, k ≤ m.length ∧ a = (((pre (m.take k)).length : Int), m.take k)) (fun a => m.length - a.2.length) _ (fun a ha => ?_) ⟨0, by omega, rfl⟩ (lt_ROUNDS (by simp only; omega))
  obtain ⟨k, hk, rfl⟩ := ha
  by_cases h : k < m.length
  · left
    have e1 : m[k]? = some m[k] := List.getElem?_eq_getElem h
    have hmem : m[k] ∈ m := List.getElem_mem h
    have hgk := hg _ hmem
    have hbk := hb _ hmem
    have hsn := pre_snoc e1
    have hsplit : pre m = pre (m.take (k + 1)) ++ pre (m.drop (k + 1)) := by
      simp only [pre]; rw [← List.flatten_append, ← List.map_append, List.take_append_drop]
    have htk : m.take (k + 1) = m.take k ++ [m[k]] := by rw [List.take_add_one, e1]; rfl
    have hc : byt m[k].Data.length 16 * 65536 + byt m[k].Data.length 8 * 256 + byt m[k].Data.length 0 = (m[k].Data.length : Nat) := hdr_num (by omega) (by unfold good at hgk; omega)
    have hdrop : (pre m ++ X).drop (pre (m.take k)).length = m[k].m_Type :: byt m[k].Data.length 16 :: byt m[k].Data.length 8 :: byt m[k].Data.length 0 :: (m[k].Data ++ (pre (m.drop (k + 1)) ++ X)) := by
      rw [hsplit, hsn, List.append_assoc, List.append_assoc, List.drop_left]
      simp [encB, hdr]
    unfold good at hgk
    have ht : (m.take k).length = k := by rw [List.length_take]; omega
    rw [readStep hD hdrop (by unfold isB; omega) (byt_isB _ _) (byt_isB _ _) (byt_isB _ _) hc (by omega)]
    rw [if_neg (by rw [List.length_append]; omega), if_neg (by omega), if_neg (by omega)]
    have hmod : m[k].m_Type % 128 = m[k].m_Type := by omega
    refine ⟨_, rfl, ⟨k + 1, by omega, ?_⟩, ?_⟩
    · rw [hsn, htk, List.length_append, encB_len, List.take_left, hmod]
      refine Prod.ext ?_ rfl
      simp only; omega
    · simp only [List.length_append, List.length_singleton]; omega
  · right
    have : k = m.length := by omega
    subst this
    rw [List.take_length]
    exact hr

/-- The last one is read, whatever stands behind. -/
theorem read_all (m : List blocks_Block) (z : blocks_Block) (y : List Int) (hg : ∀ b, b ∈ m ++ [z] → good b) (hb : ∀ b, b ∈ m ++ [z] → ∀ x, x ∈ b.Data → isB x) (hm : m.length ≤ 1000) (hD : (pre m ++ encB 128 z ++ y).length ≤ 1000000000) :
    blocks_Read (pre m ++ encB 128 z ++ y) = some (m ++ [z], ((pre m ++ encB 128 z).length : Int), 0) := by
  have hgz := hg z (by simp)
  have hbz := hb z (by simp)
  unfold good at hgz
  rw [List.append_assoc] at hD ⊢
  refine read_pre m _ _ (fun b h => hg b (by simp [h])) (fun b h => hb b (by simp [h])) hm hD ?_
  have hc : byt z.Data.length 16 * 65536 + byt z.Data.length 8 * 256 + byt z.Data.length 0 = (z.Data.length : Nat) := hdr_num (by omega) (by omega)
  have hdrop : (pre m ++ (encB 128 z ++ y)).drop (pre m).length = (z.m_Type + 128) :: byt z.Data.length 16 :: byt z.Data.length 8 :: byt z.Data.length 0 :: (z.Data ++ y) := by
    rw [List.drop_left]; simp [encB, hdr]
  rw [readStep hD hdrop (by unfold isB; omega) (byt_isB _ _) (byt_isB _ _) (byt_isB _ _) hc (by omega)]
  rw [if_neg (by rw [List.length_append]; omega), if_neg (by omega), if_pos (by omega), List.take_left]
  have hmod : (z.m_Type + 128) % 128 = z.m_Type := by omega
  rw [hmod, List.length_append, encB_len, show (pre m).length + 4 + z.Data.length = (pre m).length + (z.Data.length + 4) by omega]

/-- One byte is missing. -/
theorem read_short (m : List blocks_Block) (z : blocks_Block) (hg : ∀ b, b ∈ m ++ [z] → good b) (hb : ∀ b, b ∈ m ++ [z] → ∀ x, x ∈ b.Data → isB x) (hm : m.length ≤ 1000) (hD : (pre m ++ encB 128 z).length ≤ 1000000000) :
    blocks_Read (pre m ++ (encB 128 z).take (z.Data.length + 3)) = some ([], 0, 11) := by
  have hgz := hg z (by simp)
  have hbz := hb z (by simp)
  unfold good at hgz
  have hD' : (pre m ++ (encB 128 z).take (z.Data.length + 3)).length = (pre m).length + (z.Data.length + 3) := by
    rw [List.length_append, List.length_take, encB_len]; omega
  have hDD : (pre m ++ (encB 128 z).take (z.Data.length + 3)).length ≤ 1000000000 := by
    rw [hD']; rw [List.length_append, encB_len] at hD; omega
  refine read_pre m _ _ (fun b h => hg b (by simp [h])) (fun b h => hb b (by simp [h])) hm hDD ?_
  by_cases hz : z.Data.length = 0
  · simp only [blocks_Read_L1]
    rw [if_pos (by rw [hD', W_id (by omega) (by omega)]; simp; omega)]
    rfl
  · have hc : byt z.Data.length 16 * 65536 + byt z.Data.length 8 * 256 + byt z.Data.length 0 = (z.Data.length : Nat) := hdr_num (by omega) (by omega)
    have hdrop : (pre m ++ (encB 128 z).take (z.Data.length + 3)).drop (pre m).length = (z.m_Type + 128) :: byt z.Data.length 16 :: byt z.Data.length 8 :: byt z.Data.length 0 :: z.Data.take (z.Data.length - 1) := by
      rw [List.drop_left, show z.Data.length + 3 = (z.Data.length - 1) + 4 by omega]
      simp [encB, hdr]
    rw [readStep hDD hdrop (by unfold isB; omega) (byt_isB _ _) (byt_isB _ _) (byt_isB _ _) hc (by omega)]
    rw [if_pos (by rw [List.length_take]; omega)]

/-- What is read, is what bytes begin with. -/
theorem read_of (y : List Int) (hy : y.length ≤ 1000) (hb : ∀ x, x ∈ y → isB x) :
    ∃ r, blocks_Read y = some r ∧ ((r.1 = [] ∧ r.2.1 = 0 ∧ r.2.2 ≠ 0) ∨ ∃ m z, ∃ k : Nat, r = (m ++ [z], (k : Int), 0) ∧ k ≤ y.length ∧ y.take k = pre m ++ encB 128 z ∧ (∀ b, b ∈ m ++ [z] → good b) ∧ m.length ≤ 1000) := by
  unfold blocks_Read
  refine iter_of (fun a : Int × List blocks_Block => ∃ k : Nat, a.1 = k ∧ k ≤ y.length ∧ y.take k = pre a.2 ∧ (∀ b, b ∈ a.2 → good b) ∧ a.2.length ≤ k) (fun a => (y.length - a.1).toNat) _ (fun a ha => ?_) ⟨0, rfl, by omega, rfl, by simp, by simp⟩ (lt_ROUNDS (by simp only; omega))
  obtain ⟨k', bs⟩ := a
  obtain ⟨k, hk0, hk, hp, hg, hl⟩ := ha
  simp only at hk0 hp hg hl
  subst hk0
  by_cases h4 : y.length < k + 4
  · right
    simp only [blocks_Read_L1]
    rw [if_pos (by rw [W_id (by omega) (by omega)]; simp; omega)]
    exact ⟨_, rfl, .inl ⟨rfl, rfl, by simp⟩⟩
  obtain ⟨p, b1, b2, b3, T, hT⟩ : ∃ p b1 b2 b3 T, y.drop k = p :: b1 :: b2 :: b3 :: T := by
    have hlen : (y.drop k).length = y.length - k := List.length_drop
    match hh : y.drop k with
    | [] => rw [hh] at hlen; simp at hlen; omega
    | [_] => rw [hh] at hlen; simp at hlen; omega
    | [_, _] => rw [hh] at hlen; simp at hlen; omega
    | [_, _, _] => rw [hh] at hlen; simp at hlen; omega
    | p :: b1 :: b2 :: b3 :: T => exact ⟨p, b1, b2, b3, T, rfl⟩
  have hin : ∀ x, x ∈ y.drop k → isB x := fun x hx => hb x (List.mem_of_mem_drop hx)
  rw [hT] at hin
  have h0 : isB p := hin _ (by simp)
  have h1 : isB b1 := hin _ (by simp)
  have h2 : isB b2 := hin _ (by simp)
  have h3 : isB b3 := hin _ (by simp)
  obtain ⟨n, hn⟩ : ∃ n : Nat, b1 * 65536 + b2 * 256 + b3 = n := Int.eq_ofNat_of_zero_le (by unfold isB at *; omega)
  have hlen : k + 4 + T.length = y.length := by
    have := congrArg List.length hT
    simp only [List.length_drop, List.length_cons] at this
    omega
  rw [readStep (by omega) hT h0 h1 h2 h3 hn (by omega)]
  by_cases h5 : T.length < n
  · right
    rw [if_pos h5]
    exact ⟨_, rfl, .inl ⟨rfl, rfl, by simp⟩⟩
  rw [if_neg h5]
  by_cases h6 : p % 128 = 127
  · right
    rw [if_pos h6]
    exact ⟨_, rfl, .inl ⟨rfl, rfl, by simp⟩⟩
  rw [if_neg h6]
  have htl : (T.take n).length = n := by rw [List.length_take]; omega
  have hgood : good ⟨p % 128, T.take n⟩ := by
    unfold good; simp only [htl]; unfold isB at *; omega
  have hgood' : ∀ b, b ∈ bs ++ [(⟨p % 128, T.take n⟩ : blocks_Block)] → good b := fun b hbm => by
    rcases List.mem_append.1 hbm with hbm | hbm
    · exact hg b hbm
    · rw [List.mem_singleton.1 hbm]; exact hgood
  have htake : ∀ t : Int, p % 128 + t = p → y.take (k + 4 + n) = pre bs ++ encB t ⟨p % 128, T.take n⟩ := fun t ht => by
    rw [show k + 4 + n = k + (4 + n) by omega, List.take_add, hp, hT]
    congr 1
    simp only [encB, htl, ht, hdr_of h1 h2 h3 hn]
    rw [show 4 + n = n + 4 by omega]
    simp
  by_cases h7 : 128 ≤ p
  · right
    rw [if_pos h7]
    exact ⟨_, rfl, .inr ⟨bs, _, k + 4 + n, rfl, by omega, htake 128 (by unfold isB at h0; omega), hgood', by omega⟩⟩
  · left
    rw [if_neg h7]
    refine ⟨_, rfl, ⟨k + 4 + n, rfl, by omega, ?_, hgood', by simp; omega⟩, by simp only; omega⟩
    rw [htake 0 (by unfold isB at h0; omega)]
    simp [pre]
end Go.Vg

/- THE STAGE'S THEOREM of chapter 12: read of Write is the blocks, and Write of Read the bytes. -/
namespace Go.Vg
open Go

theorem few_of (bs : List blocks_Block) (hl : bs.length ≤ 9223372036854775807) : ∃ r, jetsamlaw12_Few bs = some r ∧ (r = true → bs.length ≤ 12 ∧ ∀ b, b ∈ bs → b.Data.length ≤ 500) := by
  unfold jetsamlaw12_Few
  refine iter_of (fun i : Int => ∃ k : Nat, i = k ∧ k ≤ bs.length ∧ ∀ b, b ∈ bs.take k → b.Data.length ≤ 500) (fun i => (bs.length - i).toNat) _ (fun i hi => ?_) ⟨0, rfl, by omega, by simp⟩ (lt_ROUNDS (by omega))
  obtain ⟨k, rfl, hk, hg⟩ := hi
  simp only [jetsamlaw12_Few_L1]
  by_cases h : k < bs.length
  · have e1 : bs[k]? = some bs[k] := List.getElem?_eq_getElem h
    rw [if_pos (by simpa using h), idx_ok e1]
    simp only [Option.bind_some]
    by_cases h1 : 500 < bs[k].Data.length
    · right
      rw [if_pos (by simp; omega)]
      exact ⟨_, rfl, by simp⟩
    · left
      rw [if_neg (by simp; omega)]
      refine ⟨_, rfl, ⟨k + 1, ?_, by omega, fun b hb => ?_⟩, ?_⟩
      · rw [W_id (by omega) (by omega)]; omega
      · rw [List.take_add_one, e1] at hb
        rcases List.mem_append.1 hb with hb | hb
        · exact hg b hb
        · simp at hb; rw [hb]; omega
      · rw [W_id (by omega) (by omega)]; omega
  · right
    rw [if_neg (by simpa using h)]
    have : k = bs.length := by omega
    subst this
    rw [List.take_length] at hg
    exact ⟨_, rfl, fun hh => ⟨by have := of_decide_eq_true hh; omega, hg⟩⟩

theorem same_eq (l : List blocks_Block) (hl : l.length ≤ 1000000) (hd : ∀ b, b ∈ l → b.Data.length ≤ 1000000) : jetsamlaw12_Same l l = some true := by
  unfold jetsamlaw12_Same
  rw [if_neg (by simp)]
  refine iter_eq (fun i : Int => ∃ k : Nat, i = k ∧ k ≤ l.length) (fun i => (l.length - i).toNat) _ (fun i hi => ?_) ⟨0, rfl, by omega⟩ (lt_ROUNDS (by omega))
  obtain ⟨k, rfl, hk⟩ := hi
  simp only [jetsamlaw12_Same_L1]
  by_cases h : k < l.length
  · left
    have e1 : l[k]? = some l[k] := List.getElem?_eq_getElem h
    rw [if_pos (by simpa using h), idx_ok e1]
    simp only [Option.bind_some]
    rw [if_neg (by simp), bytes_same _ (hd _ (List.getElem_mem h))]
    simp only [Option.bind_some]
    rw [if_neg (by simp)]
    refine ⟨_, rfl, ⟨k + 1, ?_, by omega⟩, ?_⟩
    · rw [W_id (by omega) (by omega)]; omega
    · rw [W_id (by omega) (by omega)]; omega
  · right
    rw [if_neg (by simpa using h)]
    rfl

theorem back_K1 (y : List Int) (hy : y.length ≤ 1000) (hb : ∀ x, x ∈ y → isB x) : jetsamlaw12_BlocksBack_K1 y () = some true := by
  unfold jetsamlaw12_BlocksBack_K1
  obtain ⟨r, h1, h2⟩ := read_of y hy hb
  rw [h1]
  simp only [Option.bind_some, awake12]
  rcases h2 with ⟨h2, h3, h4⟩ | ⟨m, z, k, rfl, hk, hp, hg, hm⟩
  · rw [if_pos (by simpa using h4), h2, h3]; rfl
  · rw [if_neg (by simp)]
    obtain ⟨r7, w1, w2⟩ := write_of m z hm
    simp only [w1, Option.bind_some]
    rcases w2 with ⟨rfl, _⟩ | ⟨_, b, hbm, hng⟩
    · rw [if_pos (by simp; omega), sub_nat (l := y) (i := 0) (a := 0) (b := k) rfl rfl (by omega) (by omega)]
      simp only [Option.bind_some]
      rw [List.drop_zero, Nat.sub_zero, ← hp, bytes_same _ (by rw [List.length_take]; omega)]
      rfl
    · exact absurd (hg b hbm) hng

theorem law_BlocksBack (bs : List blocks_Block) (y : List Int) (hl : bs.length ≤ 9223372036854775807) (hbs : ∀ b, b ∈ bs → ∀ x, x ∈ b.Data → isB x) (hb : ∀ x, x ∈ y → isB x) : jetsamlaw12_BlocksBack bs y = some true := by
  unfold jetsamlaw12_BlocksBack
  obtain ⟨r, h1, h2⟩ := few_of bs hl
  rw [h1]
  simp only [Option.bind_some, awake12]
  cases r with
  | false => rw [if_pos (by simp)]
  | true =>
  obtain ⟨h3, h4⟩ := h2 rfl
  by_cases hy : y.length ≤ 1000
  case neg => rw [if_pos (by simp; omega)]
  rw [if_neg (by simp; omega), back_K1 y hy hb]
  rcases List.eq_nil_or_concat bs with rfl | ⟨m, z, rfl⟩
  · rw [write_nil]; rfl
  have hm : m.length ≤ 11 := by simp at h3; omega
  obtain ⟨r, w1, w2⟩ := write_of m z (by omega)
  rw [List.concat_eq_append] at *
  rw [w1]
  simp only [Option.bind_some]
  rcases w2 with ⟨rfl, hg⟩ | ⟨w2, _⟩
  case inr => rw [if_neg (by simpa using w2)]
  have hpl : (pre m).length ≤ m.length * 504 := by
    have : ∀ l : List blocks_Block, (∀ b, b ∈ l → b.Data.length ≤ 500) → (pre l).length ≤ l.length * 504 := by
      intro l
      induction l with
      | nil => simp [pre]
      | cons b r ih =>
        intro h
        have h1 := ih (fun x hx => h x (List.mem_cons_of_mem _ hx))
        have h2 := h b (List.mem_cons_self ..)
        have e : pre (b :: r) = encB 0 b ++ pre r := rfl
        rw [e, List.length_append, encB_len, List.length_cons]
        omega
    exact this m (fun b h => h4 b (by simp [h]))
  have hzl : z.Data.length ≤ 500 := h4 z (by simp)
  have hel := encB_len 128 z
  have hlen : (pre m ++ encB 128 z).length = (pre m).length + (z.Data.length + 4) := by rw [List.length_append, hel]
  rw [if_pos (by rfl), app_ok (l := []) (by simp only [List.length_nil]; omega)]
  simp only [Option.bind_some, List.nil_append]
  rw [app_ok (by omega)]
  simp only [Option.bind_some]
  rw [read_all m z y hg hbs (by omega) (by rw [List.length_append]; omega)]
  simp only [Option.bind_some]
  rw [if_neg (by simp), same_eq _ (by omega) (fun b h => by have := h4 b h; omega)]
  simp only [Option.bind_some]
  rw [if_neg (by simp), sub_nat (l := pre m ++ encB 128 z) (i := 0) (a := 0) (b := (pre m).length + (z.Data.length + 3)) rfl (by rw [W_id (by omega) (by omega)]; omega) (by omega) (by omega)]
  simp only [Option.bind_some]
  rw [List.drop_zero, Nat.sub_zero, List.take_length_add_append, read_short m z hg hbs (by omega) (by omega)]
  rfl

theorem isB_of {l : List Int} (h : V.wf (Sh.val (.sl (.int .u8)) l)) : ∀ x, x ∈ l → isB x := fun x hx => by
  have h : l.length ≤ LIM ∧ ∀ p, p ∈ l → IntKind.u8.has p := h
  have := h.2 x hx
  rw [has_iff] at this
  unfold isB
  have : 0 ≤ x ∧ x ≤ 255 := this
  omega
end Go.Vg
