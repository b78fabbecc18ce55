/- Points: written, read, in order; what a padding holds. -/
import Derived.Test.YtnapnedfhimikaaM1
set_option maxRecDepth 4000
set_option linter.all false
set_option linter.unusedVariables false
set_option linter.unusedSimpArgs false
/- Points: numbers of 8 bytes, what is written, what stands in order. -/
namespace Go.Vg
open Go

def b8 (n : Int) : List Int := [byt n 56, byt n 48, byt n 40, byt n 32, byt n 24, byt n 16, byt n 8, byt n 0]
def b2 (n : Int) : List Int := [byt n 8, byt n 0]
theorem big8 (n : Int) : blocks_big n 8 = some (b8 n) := by
  have h : blocks_big n 8 = some [IntKind.u8.wrap (shD .shr .i64 n (56 : Nat)), IntKind.u8.wrap (shD .shr .i64 n (48 : Nat)), IntKind.u8.wrap (shD .shr .i64 n (40 : Nat)), IntKind.u8.wrap (shD .shr .i64 n (32 : Nat)), IntKind.u8.wrap (shD .shr .i64 n (24 : Nat)), IntKind.u8.wrap (shD .shr .i64 n (16 : Nat)), IntKind.u8.wrap (shD .shr .i64 n (8 : Nat)), IntKind.u8.wrap (shD .shr .i64 n (0 : Nat))] := by
    unfold blocks_big
    rw [show mks 1 8 (0 : Int) = some [0, 0, 0, 0, 0, 0, 0, 0] from rfl]
    exact iter_n 9 (by omega) rfl
  rw [h, byt_eq _ _ (by omega), byt_eq _ _ (by omega), byt_eq _ _ (by omega), byt_eq _ _ (by omega), byt_eq _ _ (by omega), byt_eq _ _ (by omega), byt_eq _ _ (by omega), byt_eq _ _ (by omega)]
  rfl
theorem big2 (n : Int) : blocks_big n 2 = some (b2 n) := by
  have h : blocks_big n 2 = some [IntKind.u8.wrap (shD .shr .i64 n (8 : Nat)), IntKind.u8.wrap (shD .shr .i64 n (0 : Nat))] := by
    unfold blocks_big
    rw [show mks 1 2 (0 : Int) = some [0, 0] from rfl]
    exact iter_n 3 (by omega) rfl
  rw [h, byt_eq _ _ (by omega), byt_eq _ _ (by omega)]
  rfl
theorem rbyt (n : Int) (hn : 0 ≤ n) (s : Nat) (hs : s ≤ 64) : IntKind.u8.wrap ((shD .shr .i64 n (s : Int)).tmod 256) = byt n s := by
  have e : min (s : Int).toNat IntKind.i64.bits = s := by show min s 64 = s; omega
  have hp : (0 : Int) < 2 ^ s := Int.pow_pos (by decide)
  simp only [shD, e]
  rw [Int.fdiv_eq_ediv_of_nonneg _ (Int.le_of_lt hp), IntKind.wrap_u8, Int.tmod_eq_emod_of_nonneg (Int.ediv_nonneg hn (Int.le_of_lt hp))]
  unfold byt
  omega
theorem rbig8 (n : Int) (hn : 0 ≤ n) : jetsamref12_Big n 8 = some (b8 n) := by
  have h : jetsamref12_Big n 8 = some [IntKind.u8.wrap ((shD .shr .i64 n (56 : Nat)).tmod 256), IntKind.u8.wrap ((shD .shr .i64 n (48 : Nat)).tmod 256), IntKind.u8.wrap ((shD .shr .i64 n (40 : Nat)).tmod 256), IntKind.u8.wrap ((shD .shr .i64 n (32 : Nat)).tmod 256), IntKind.u8.wrap ((shD .shr .i64 n (24 : Nat)).tmod 256), IntKind.u8.wrap ((shD .shr .i64 n (16 : Nat)).tmod 256), IntKind.u8.wrap ((shD .shr .i64 n (8 : Nat)).tmod 256), IntKind.u8.wrap ((shD .shr .i64 n (0 : Nat)).tmod 256)] := by
    unfold jetsamref12_Big
    exact iter_n 9 (by omega) rfl
  rw [h, rbyt _ hn _ (by omega), rbyt _ hn _ (by omega), rbyt _ hn _ (by omega), rbyt _ hn _ (by omega), rbyt _ hn _ (by omega), rbyt _ hn _ (by omega), rbyt _ hn _ (by omega), rbyt _ hn _ (by omega)]
  rfl
theorem rbig2 (n : Int) (hn : 0 ≤ n) : jetsamref12_Big n 2 = some (b2 n) := by
  have h : jetsamref12_Big n 2 = some [IntKind.u8.wrap ((shD .shr .i64 n (8 : Nat)).tmod 256), IntKind.u8.wrap ((shD .shr .i64 n (0 : Nat)).tmod 256)] := by
    unfold jetsamref12_Big
    exact iter_n 3 (by omega) rfl
  rw [h, rbyt _ hn _ (by omega), rbyt _ hn _ (by omega)]
  rfl
theorem b8_neg : b8 (-1) = List.replicate 8 255 := rfl

theorem wstep (a x : Int) : W (W a * 256 + x) = W (a * 256 + x) := wrap_mod (by simp only [W, IntKind.wrap_i64]; omega)
theorem numW8 (a b c d e f g h : Int) : numW [a, b, c, d, e, f, g, h] = W (a * 72057594037927936 + b * 281474976710656 + c * 1099511627776 + d * 4294967296 + e * 16777216 + f * 65536 + g * 256 + h) := by
  simp only [numW, List.foldl_cons, List.foldl_nil, wstep]
  exact wrap_mod (by omega)
theorem num2 {x y : Int} (hx : isB x) (hy : isB y) : numW [x, y] = x * 256 + y := by
  unfold isB at *
  simp only [numW, List.foldl_cons, List.foldl_nil]
  rw [W_id (x := 0 * 256 + x) (by omega) (by omega), W_id (by omega) (by omega)]
  omega
theorem b8_num {a b c d e f g h : Int} (ha : isB a) (hb : isB b) (hc : isB c) (hd : isB d) (he : isB e) (hf : isB f) (hg : isB g) (hh : isB h) : b8 (numW [a, b, c, d, e, f, g, h]) = [a, b, c, d, e, f, g, h] := by
  rw [numW8]
  unfold isB at *
  simp only [W, IntKind.wrap_i64, b8, byt]
  have h56 : (2 : Int) ^ 56 = 72057594037927936 := by decide
  have h48 : (2 : Int) ^ 48 = 281474976710656 := by decide
  have h40 : (2 : Int) ^ 40 = 1099511627776 := by decide
  have h32 : (2 : Int) ^ 32 = 4294967296 := by decide
  have h24 : (2 : Int) ^ 24 = 16777216 := by decide
  have h16 : (2 : Int) ^ 16 = 65536 := by decide
  have h8 : (2 : Int) ^ 8 = 256 := by decide
  have h0 : (2 : Int) ^ 0 = 1 := by decide
  rw [h56, h48, h40, h32, h24, h16, h8, h0]
  generalize hN : a * 72057594037927936 + b * 281474976710656 + c * 1099511627776 + d * 4294967296 + e * 16777216 + f * 65536 + g * 256 + h = N
  have hN0 : 0 ≤ N ∧ N < 18446744073709551616 := by omega
  simp only [List.cons.injEq, and_true]
  refine ⟨?_, ?_, ?_, ?_, ?_, ?_, ?_, ?_⟩ <;> omega
theorem num_b8 {n : Int} (h1 : -9223372036854775808 ≤ n) (h2 : n ≤ 9223372036854775807) : numW (b8 n) = n := by
  simp only [b8, numW8, byt]
  have h56 : (2 : Int) ^ 56 = 72057594037927936 := by decide
  have h48 : (2 : Int) ^ 48 = 281474976710656 := by decide
  have h40 : (2 : Int) ^ 40 = 1099511627776 := by decide
  have h32 : (2 : Int) ^ 32 = 4294967296 := by decide
  have h24 : (2 : Int) ^ 24 = 16777216 := by decide
  have h16 : (2 : Int) ^ 16 = 65536 := by decide
  have h8 : (2 : Int) ^ 8 = 256 := by decide
  have h0 : (2 : Int) ^ 0 = 1 := by decide
  rw [h56, h48, h40, h32, h24, h16, h8, h0]
  have e : ∀ x : Int, x = n % 18446744073709551616 → W x = n := fun x hx => by
    subst hx; simp only [W, IntKind.wrap_i64]; omega
  refine e _ ?_
  omega
theorem b2_num {a b : Int} (ha : isB a) (hb : isB b) : b2 (numW [a, b]) = [a, b] := by
  rw [num2 ha hb]
  unfold isB at *
  simp only [b2, byt]
  have h8 : (2 : Int) ^ 8 = 256 := by decide
  have h0 : (2 : Int) ^ 0 = 1 := by decide
  rw [h8, h0]
  simp only [List.cons.injEq, and_true]
  omega
theorem num_b2 {n : Int} (h1 : 0 ≤ n) (h2 : n ≤ 65535) : numW (b2 n) = n := by
  rw [b2, num2 (byt_isB _ _) (byt_isB _ _)]
  simp only [byt]
  have h8 : (2 : Int) ^ 8 = 256 := by decide
  have h0 : (2 : Int) ^ 0 = 1 := by decide
  rw [h8, h0]
  omega
end Go.Vg

/- Points: which are written, and as which bytes. -/
namespace Go.Vg
open Go

def okPair (p q : blocks_Point) : Bool := !((q.Sample != -1) && (decide (q.Sample ≤ p.Sample) || (p.Sample == -1)))
def ordK (l : List blocks_Point) (k : Nat) : Prop := ∀ i p q, i + 1 < k → l[i]? = some p → l[i + 1]? = some q → okPair p q = true
def ordP (l : List blocks_Point) : Prop := ordK l l.length
def toArr (p : blocks_Point) : Arr3 Int := ⟨p.Sample, p.Offset, p.Count⟩

theorem ordK_le1 (l : List blocks_Point) (k : Nat) (hk : k ≤ 1) : ordK l k := fun i p q h => by omega
theorem ordK_snoc {l : List blocks_Point} {k : Nat} {p q : blocks_Point} (h : ordK l k) (hk : 1 ≤ k) (h1 : l[k - 1]? = some p) (h2 : l[k]? = some q) (ho : okPair p q = true) : ordK l (k + 1) := fun i p' q' hi g1 g2 => by
  by_cases hik : i + 1 < k
  · exact h i p' q' hik g1 g2
  · have : i = k - 1 := by omega
    subst this
    have e : k - 1 + 1 = k := by omega
    rw [e] at g2
    rw [h1] at g1; rw [h2] at g2
    cases g1; cases g2; exact ho
theorem order_of (l : List blocks_Point) (hl : l.length ≤ 1000000) : ∃ r, blocks_order l = some r ∧ ((r = 0 ∧ ordP l) ∨ (r = 18 ∧ ¬ordP l)) := by
  unfold blocks_order
  by_cases h0 : l.length = 0
  · rw [List.length_eq_zero_iff] at h0; subst h0
    exact ⟨0, iter_n 1 (by omega) rfl, .inl ⟨rfl, ordK_le1 _ _ (by simp)⟩⟩
  refine iter_of (fun i : Int => ∃ k : Nat, i = k ∧ 1 ≤ k ∧ k ≤ l.length ∧ ordK l k) (fun i => (l.length - i).toNat) _ (fun i hi => ?_) ⟨1, rfl, by omega, by omega, ordK_le1 _ _ (by omega)⟩ (lt_ROUNDS (by omega))
  obtain ⟨k, rfl, hk1, hk, ho⟩ := hi
  simp only [blocks_order_L1]
  by_cases h : k < l.length
  · have e1 : l[k]? = some l[k] := List.getElem?_eq_getElem h
    have e0 : l[k - 1]? = some l[k - 1] := List.getElem?_eq_getElem (by omega)
    have wk : W ((k : Int) - 1) = ((k - 1 : Nat) : Int) := by rw [W_id (by omega) (by omega)]; omega
    have ws : W ((k : Int) + 1) = ((k + 1 : Nat) : Int) := by rw [W_id (by omega) (by omega)]; omega
    have hsn := ordK_snoc ho hk1 e0 e1
    have hbad : okPair l[k - 1] l[k] = false → ¬ordP l := fun hf hp => by
      have hx := hp (k - 1) l[k - 1] l[k] (by omega) e0 (by rw [show k - 1 + 1 = k by omega]; exact e1)
      rw [hf] at hx; cases hx
    rw [if_pos (by simpa using h), idx_ok e1, wk, idx_ok e0, ws]
    simp only [Option.bind_some]
    have go : okPair l[k - 1] l[k] = true → (∃ a' : Int, (some (.inl ((k + 1 : Nat) : Int)) : Option (Int ⊕ Int)) = some (.inl a') ∧ (∃ q : Nat, a' = q ∧ 1 ≤ q ∧ q ≤ l.length ∧ ordK l q) ∧ (l.length - a').toNat < (l.length - (k : Int)).toNat) := fun hb => ⟨_, rfl, ⟨k + 1, rfl, by omega, by omega, hsn hb⟩, by omega⟩
    have stop : okPair l[k - 1] l[k] = false → ∃ r, (Option.map Sum.inr (some (18 : Int)) : Option (Int ⊕ Int)) = some (.inr r) ∧ ((r = 0 ∧ ordP l) ∨ (r = 18 ∧ ¬ordP l)) := fun hb => ⟨_, rfl, .inr ⟨rfl, hbad hb⟩⟩
    unfold okPair at go stop
    generalize l[k - 1].Sample = s0 at *
    generalize l[k].Sample = s1 at *
    by_cases c1 : s1 = -1
    · left
      have d1 : (s1 != -1) = false := by simpa using c1
      rw [d1] at go ⊢
      rw [if_neg (by simp), if_neg (c := false = true) (by simp), ite_self]
      exact go rfl
    · have d1 : (s1 != -1) = true := by simpa using c1
      rw [d1] at go stop ⊢
      rw [if_pos rfl]
      by_cases c2 : s1 ≤ s0
      · right
        rw [if_pos (by simpa using c2)]
        exact stop (by simp [c2])
      · rw [if_neg (by simpa using c2)]
        by_cases c3 : s0 = -1
        · right
          rw [if_pos (by simpa using c3), if_pos rfl]
          exact stop (by simp [c3])
        · left
          rw [if_neg (by simpa using c3)]
          exact go (by simp [c2, c3])
  · right
    rw [if_neg (by simpa using h)]
    have : k = l.length := by omega
    subst this
    exact ⟨_, rfl, .inl ⟨rfl, ho⟩⟩

theorem ordered_of (l : List blocks_Point) (hl : l.length ≤ 1000000) (hs : ∀ p, p ∈ l → -1 ≤ p.Sample) : ∃ r, jetsamref12_ordered (l.map toArr) = some r ∧ ((r = true ∧ ordP l) ∨ (r = false ∧ ¬ordP l)) := by
  unfold jetsamref12_ordered
  by_cases h0 : l.length = 0
  · rw [List.length_eq_zero_iff] at h0; subst h0
    exact ⟨true, iter_n 1 (by omega) rfl, .inl ⟨rfl, ordK_le1 _ _ (by simp)⟩⟩
  refine iter_of (fun i : Int => ∃ k : Nat, i = k ∧ 1 ≤ k ∧ k ≤ l.length ∧ ordK l k) (fun i => (l.length - i).toNat) _ (fun i hi => ?_) ⟨1, rfl, by omega, by omega, ordK_le1 _ _ (by omega)⟩ (lt_ROUNDS (by omega))
  obtain ⟨k, rfl, hk1, hk, ho⟩ := hi
  simp only [jetsamref12_ordered_L1, List.length_map]
  by_cases h : k < l.length
  · obtain ⟨p1, e1⟩ : ∃ p, l[k]? = some p := ⟨_, List.getElem?_eq_getElem h⟩
    obtain ⟨p0, e0⟩ : ∃ p, l[k - 1]? = some p := ⟨_, List.getElem?_eq_getElem (by omega)⟩
    have m1 : (l.map toArr)[k]? = some (toArr p1) := by rw [List.getElem?_map, e1]; rfl
    have m0 : (l.map toArr)[k - 1]? = some (toArr p0) := by rw [List.getElem?_map, e0]; rfl
    have wk : W ((k : Int) - 1) = ((k - 1 : Nat) : Int) := by rw [W_id (by omega) (by omega)]; omega
    have ws : W ((k : Int) + 1) = ((k + 1 : Nat) : Int) := by rw [W_id (by omega) (by omega)]; omega
    have hsn := ordK_snoc ho hk1 e0 e1
    have hbad : okPair p0 p1 = false → ¬ordP l := fun hf hp => by
      have hx := hp (k - 1) p0 p1 (by omega) e0 (by rw [show k - 1 + 1 = k by omega]; exact e1)
      rw [hf] at hx; cases hx
    rw [if_pos (by simpa using h), idx_ok m1, wk, idx_ok m0, ws]
    simp only [Option.bind_some]
    have go : okPair p0 p1 = true → (∃ a' : Int, (some (.inl ((k + 1 : Nat) : Int)) : Option (Int ⊕ Bool)) = some (.inl a') ∧ (∃ q : Nat, a' = q ∧ 1 ≤ q ∧ q ≤ l.length ∧ ordK l q) ∧ (l.length - a').toNat < (l.length - (k : Int)).toNat) := fun hb => ⟨_, rfl, ⟨k + 1, rfl, by omega, by omega, hsn hb⟩, by omega⟩
    have stop : okPair p0 p1 = false → ∃ r, (Option.map Sum.inr (some false) : Option (Int ⊕ Bool)) = some (.inr r) ∧ ((r = true ∧ ordP l) ∨ (r = false ∧ ¬ordP l)) := fun hb => ⟨_, rfl, .inr ⟨rfl, hbad hb⟩⟩
    have n1 : -1 ≤ p1.Sample := hs _ (List.mem_of_getElem? e1)
    have n0 : -1 ≤ p0.Sample := hs _ (List.mem_of_getElem? e0)
    unfold okPair at go stop
    by_cases c1 : p1.Sample = -1
    · left
      have f : ¬(decide ((toArr p1).a0 ≥ 0) = true) := by simp [toArr, c1]
      rw [if_neg f, if_neg f]
      exact go (by simp [c1])
    · have d1 : (p1.Sample != -1) = true := by simpa using c1
      have f : decide ((toArr p1).a0 ≥ 0) = true := by simp [toArr]; omega
      rw [d1] at go stop
      rw [if_pos f]
      by_cases c2 : p1.Sample ≤ p0.Sample
      · right
        rw [if_pos (decide_eq_true (show (toArr p1).a0 ≤ (toArr p0).a0 from c2))]
        exact stop (by simp [c2])
      · rw [if_neg (c := decide ((toArr p1).a0 ≤ (toArr p0).a0) = true) (fun e => c2 (of_decide_eq_true e)), if_pos f]
        by_cases c3 : p0.Sample = -1
        · right
          rw [if_pos (c := decide ((toArr p0).a0 < 0) = true) (decide_eq_true (show p0.Sample < 0 by omega))]
          exact stop (by simp [c3])
        · left
          rw [if_neg (c := decide ((toArr p0).a0 < 0) = true) (fun e => by have : p0.Sample < 0 := of_decide_eq_true e; omega)]
          exact go (by simp [c2, c3])
  · right
    rw [if_neg (by simpa using h)]
    have : k = l.length := by omega
    subst this
    exact ⟨_, rfl, .inl ⟨rfl, ho⟩⟩

def badW (p : blocks_Point) : Bool := (if (if (if (decide (p.Sample < (-1))) = true then true else (decide (p.Offset < 0))) = true then true else (decide (p.Count < 0))) = true then true else (decide (p.Count > 65535)))
theorem badW_iff (p : blocks_Point) : badW p = false ↔ -1 ≤ p.Sample ∧ 0 ≤ p.Offset ∧ 0 ≤ p.Count ∧ p.Count ≤ 65535 := by
  unfold badW
  by_cases h1 : p.Sample < -1
  · simp [h1]; omega
  by_cases h2 : p.Offset < 0
  · simp [h1, h2]; omega
  by_cases h3 : p.Count < 0
  · simp [h1, h2, h3]; intros; omega
  · simp [h1, h2, h3]; omega
theorem contains_of (l : List blocks_Point) (hl : l.length ≤ 1000000) : slices_ContainsFunc_sblocks_Point_blocks_Point l blocks_WritePoints_c1 = some (l.any badW) := by
  have h : ∃ r, slices_IndexFunc_sblocks_Point_blocks_Point l blocks_WritePoints_c1 = some r ∧ decide (r ≥ 0) = l.any badW := by
    unfold slices_IndexFunc_sblocks_Point_blocks_Point
    refine iter_of (fun i : Int => ∃ k : Nat, i = k ∧ k ≤ l.length ∧ (l.take k).any badW = false) (fun i => (l.length - i).toNat) _ (fun i hi => ?_) ⟨0, rfl, by omega, by simp⟩ (lt_ROUNDS (by omega))
    obtain ⟨k, rfl, hk, hn⟩ := hi
    simp only [slices_IndexFunc_sblocks_Point_blocks_Point_L1]
    by_cases h : k < l.length
    · have e1 : l[k]? = some l[k] := List.getElem?_eq_getElem h
      have ht := anyTake (f := badW) e1
      rw [hn, Bool.false_or] at ht
      have hc : blocks_WritePoints_c1 l[k] = some (badW l[k]) := rfl
      rw [if_pos (by simpa using h), idx_ok e1]
      simp only [Option.bind_some, hc]
      cases hb : badW l[k] with
      | true =>
        right
        rw [if_pos rfl]
        refine ⟨_, rfl, ?_⟩
        rw [any_of_take (k := k + 1) (by rw [ht, hb])]
        simp
      | false =>
        left
        rw [if_neg (by simp)]
        refine ⟨_, rfl, ⟨k + 1, ?_, by omega, by rw [ht, hb]⟩, ?_⟩
        · rw [W_id (by omega) (by omega)]; omega
        · rw [W_id (by omega) (by omega)]; omega
    · right
      rw [if_neg (by simpa using h)]
      have : k = l.length := by omega
      subst this
      rw [List.take_length] at hn
      exact ⟨_, rfl, by rw [hn]; rfl⟩
  obtain ⟨r, h1, h2⟩ := h
  unfold slices_ContainsFunc_sblocks_Point_blocks_Point
  rw [h1, ← h2]; rfl

def encP (p : blocks_Point) : List Int := b8 p.Sample ++ (b8 p.Offset ++ b2 p.Count)
def encPs (l : List blocks_Point) : List Int := (l.map encP).flatten
theorem encP_len (p : blocks_Point) : (encP p).length = 18 := rfl
theorem encPs_len (l : List blocks_Point) : (encPs l).length = l.length * 18 := by
  induction l with
  | nil => rfl
  | cons p r ih =>
    have e : encPs (p :: r) = encP p ++ encPs r := rfl
    rw [e, List.length_append, encP_len, ih, List.length_cons]; omega
theorem encPs_snoc {l : List blocks_Point} {k : Nat} {p : blocks_Point} (h : l[k]? = some p) : encPs (l.take (k + 1)) = encPs (l.take k) ++ encP p := by
  simp only [encPs]
  rw [List.take_add_one, h, List.map_append, List.flatten_append]; simp

/-- What is written of points. -/
theorem wpts_of (l : List blocks_Point) (hl : l.length ≤ 1000) :
    ∃ r, blocks_WritePoints l = some r ∧ ((r = ([], 10) ∧ l.any badW = true) ∨ (r = ([], 18) ∧ l.any badW = false ∧ ¬ordP l) ∨ (r = (encPs l, 0) ∧ l.any badW = false ∧ ordP l)) := by
  unfold blocks_WritePoints
  rw [contains_of l (by omega)]
  simp only [Option.bind_some]
  cases hb : l.any badW with
  | true => rw [if_pos rfl]; exact ⟨_, rfl, .inl ⟨rfl, rfl⟩⟩
  | false =>
  rw [if_neg (by simp)]
  obtain ⟨r, h1, h2⟩ := order_of l (by omega)
  rw [h1]
  simp only [Option.bind_some]
  rcases h2 with ⟨rfl, ho⟩ | ⟨rfl, ho⟩
  case inr => rw [if_pos (by decide)]; exact ⟨_, rfl, .inr (.inl ⟨rfl, trivial, ho⟩)⟩
  rw [if_neg (by decide), if_neg (by rw [W_id (by omega) (by omega)]; simp; omega)]
  have e : iter (blocks_WritePoints_L1 l) ([], 0) = some (encPs l, 0) := by
    refine iter_eq (fun a : List Int × Int => ∃ k : Nat, a.2 = k ∧ k ≤ l.length ∧ a.1 = encPs (l.take k)) (fun a => (l.length - a.2).toNat) _ (fun a ha => ?_) ⟨0, rfl, by omega, rfl⟩ (lt_ROUNDS (by simp only; omega))
    obtain ⟨v, k'⟩ := a
    obtain ⟨k, rfl, hk, rfl⟩ := ha
    simp only [blocks_WritePoints_L1]
    by_cases h : k < l.length
    · left
      have e1 : l[k]? = some l[k] := List.getElem?_eq_getElem h
      have hs := encPs_snoc e1
      have hlen := encPs_len (l.take k)
      have ht : (l.take k).length ≤ 1000 := by rw [List.length_take]; omega
      rw [if_pos (by simpa using h), idx_ok e1]
      simp only [Option.bind_some, big8, big2]
      rw [concat_eq _ (by simp) (by simp only [List.flatten_cons, List.length_append, List.flatten_nil, List.length_nil, b8, b2, List.length_cons]; omega)]
      simp only [Option.bind_some]
      refine ⟨_, rfl, ⟨k + 1, ?_, by omega, ?_⟩, ?_⟩
      · simp only; rw [W_id (by omega) (by omega)]; omega
      · simp only; rw [hs]; simp [encP]
      · simp only; rw [W_id (by omega) (by omega)]; omega
    · right
      rw [if_neg (by simpa using h)]
      have : k = l.length := by omega
      subst this
      rw [List.take_length]
      rfl
  exact ⟨_, e, .inr (.inr ⟨rfl, trivial, ho⟩)⟩

theorem points_eq (l : List blocks_Point) (hl : l.length ≤ 1000000) : jetsamlaw12_points l = some (l.map toArr) := by
  unfold jetsamlaw12_points
  refine iter_eq (fun a : Int × List (Arr3 Int) => ∃ k : Nat, a.1 = k ∧ k ≤ l.length ∧ a.2 = (l.take k).map toArr) (fun a => (l.length - a.1).toNat) _ (fun a ha => ?_) ⟨0, rfl, by omega, rfl⟩ (lt_ROUNDS (by simp only; omega))
  obtain ⟨k', a⟩ := a
  obtain ⟨k, rfl, hk, rfl⟩ := ha
  simp only [jetsamlaw12_points_L1]
  by_cases h : k < l.length
  · left
    have e1 : l[k]? = some l[k] := List.getElem?_eq_getElem h
    rw [if_pos (by simpa using h), idx_ok e1]
    simp only [Option.bind_some]
    rw [app_ok (by simp; omega)]
    simp only [Option.bind_some]
    refine ⟨_, rfl, ⟨k + 1, ?_, by omega, ?_⟩, ?_⟩
    · simp only; rw [W_id (by omega) (by omega)]; omega
    · simp only; rw [List.take_add_one, e1, Option.toList_some, List.map_append]; rfl
    · simp only; rw [W_id (by omega) (by omega)]; omega
  · right
    rw [if_neg (by simpa using h)]
    have : k = l.length := by omega
    subst this
    rw [List.take_length]
    rfl
end Go.Vg

/- Points: what the document writes, and what is read. -/
namespace Go.Vg
open Go

theorem W_succ (k : Nat) (h : k ≤ 1000000000000) : W ((k : Int) + 1) = ((k + 1 : Nat) : Int) := by rw [W_id (by omega) (by omega)]; omega

/-- The document's bytes of a point. -/
theorem rwrite_step {l : List blocks_Point} {k : Nat} {p : blocks_Point} {out : List Int} (hk : k ≤ 100000) (e : l[k]? = some p) (hb : badW p = false) (ho : out.length ≤ 100000) (hkl : k < l.length) :
    jetsamref12_WritePoints_L1 (l.map toArr) ((k : Int), out) = some (.inl (((k + 1 : Nat) : Int), out ++ encP p)) := by
  obtain ⟨h1, h2, h3, h4⟩ := (badW_iff p).1 hb
  have m1 : (l.map toArr)[k]? = some (toArr p) := by rw [List.getElem?_map, e]; rfl
  have n1 : ¬(decide ((toArr p).a0 < (-1)) = true) := fun e => by have : p.Sample < -1 := of_decide_eq_true e; omega
  have n2 : ¬(decide ((toArr p).a1 < 0) = true) := fun e => by have : p.Offset < 0 := of_decide_eq_true e; omega
  have n3 : ¬(decide ((toArr p).a2 < 0) = true) := fun e => by have : p.Count < 0 := of_decide_eq_true e; omega
  have n4 : ¬(decide ((toArr p).a2 > 65535) = true) := fun e => by have : p.Count > 65535 := of_decide_eq_true e; omega
  have hK4 : ∀ j : List Int, j.length ≤ 100100 → jetsamref12_WritePoints_K4 (l.map toArr) ((k : Int), out) (toArr p) (toArr p) (toArr p) j = some (.inl (((k + 1 : Nat) : Int), j ++ (b8 p.Offset ++ b2 p.Count))) := fun j hj => by
    simp only [jetsamref12_WritePoints_K4, jetsamref12_WritePoints_K2, idx_ok m1, Option.bind_some, toArr]
    rw [rbig8 _ h2, rbig2 _ h3]
    simp only [Option.bind_some]
    rw [app_ok (by simp only [b8, List.length_cons, List.length_nil]; omega)]
    simp only [Option.bind_some]
    rw [app_ok (by simp only [b8, b2, List.length_append, List.length_cons, List.length_nil]; omega)]
    simp only [Option.bind_some]
    rw [W_succ _ (by omega), List.append_assoc]
  simp only [jetsamref12_WritePoints_L1]
  rw [if_pos (by rw [List.length_map]; simpa using hkl)]
  simp only [idx_ok m1, Option.bind_some]
  rw [if_neg n1, if_neg n2, if_neg n3, if_neg n4]
  by_cases hs : p.Sample = -1
  · refine iter_eq (fun a : Int × List Int => ∃ j : Nat, a.1 = j ∧ j ≤ 8 ∧ a.2 = out ++ List.replicate j 255) (fun a => (8 - a.1).toNat) _ (fun a ha => ?_) ⟨0, rfl, by omega, by simp⟩ (lt_ROUNDS (by simp only; omega))
    obtain ⟨j', v⟩ := a
    obtain ⟨j, rfl, hj, rfl⟩ := ha
    simp only [jetsamref12_WritePoints_L2, idx_ok m1, Option.bind_some]
    by_cases h : j < 8
    · left
      have c1 : decide ((toArr p).a0 < 0) = true := decide_eq_true (show p.Sample < 0 by omega)
      rw [if_pos (by simp; omega), if_pos c1, app_ok (by simp; omega)]
      simp only [Option.bind_some]
      rw [W_succ _ (by omega)]
      refine ⟨_, rfl, ⟨j + 1, rfl, by omega, ?_⟩, by simp only; omega⟩
      simp only
      rw [List.append_assoc, List.replicate_succ']
    · right
      have : j = 8 := by omega
      subst this
      rw [if_neg (by simp)]
      have c1 : ¬(decide ((toArr p).a0 ≥ 0) = true) := fun e => by have : p.Sample ≥ 0 := of_decide_eq_true e; omega
      simp only [jetsamref12_WritePoints_K3, idx_ok m1, Option.bind_some]
      rw [if_neg c1, hK4 _ (by simp; omega), encP, hs, b8_neg, List.append_assoc]
      rfl
  · have c0 : ¬(decide ((toArr p).a0 < 0) = true) := fun e => by have : p.Sample < 0 := of_decide_eq_true e; omega
    have c1 : decide ((toArr p).a0 ≥ 0) = true := decide_eq_true (show p.Sample ≥ 0 by omega)
    refine iter_eq (fun a : Int × List Int => a = (0, out)) (fun _ => 0) _ (fun a ha => ?_) rfl (lt_ROUNDS (by omega))
    subst ha
    right
    simp only [jetsamref12_WritePoints_L2, idx_ok m1, Option.bind_some, jetsamref12_WritePoints_K3]
    rw [if_pos (by simp), if_neg c0, if_pos c1]
    simp only [toArr]
    rw [rbig8 _ (by omega)]
    simp only [Option.bind_some]
    rw [app_ok (by simp only [b8, List.length_cons, List.length_nil]; omega)]
    simp only [Option.bind_some]
    have := hK4 (out ++ b8 p.Sample) (by simp only [b8, List.length_append, List.length_cons, List.length_nil]; omega)
    simp only [toArr] at this
    rw [this, encP, List.append_assoc]
    rfl

theorem rwpts_of (l : List blocks_Point) (hl : l.length ≤ 1000) :
    ∃ r, jetsamref12_WritePoints (l.map toArr) = some r ∧ ((r = ([], 10) ∧ l.any badW = true) ∨ (r = ([], 18) ∧ l.any badW = false ∧ ¬ordP l) ∨ (r = (encPs l, 0) ∧ l.any badW = false ∧ ordP l)) := by
  unfold jetsamref12_WritePoints
  refine iter_of (fun a : Int × List Int => ∃ k : Nat, a.1 = k ∧ k ≤ l.length ∧ a.2 = encPs (l.take k) ∧ (l.take k).any badW = false) (fun a => (l.length - a.1).toNat) _ (fun a ha => ?_) ⟨0, rfl, by omega, rfl, by simp⟩ (lt_ROUNDS (by simp only; omega))
  obtain ⟨k', v⟩ := a
  obtain ⟨k, rfl, hk, rfl, hn⟩ := ha
  by_cases h : k < l.length
  · obtain ⟨p, e1⟩ : ∃ p, l[k]? = some p := ⟨_, List.getElem?_eq_getElem h⟩
    have ht := anyTake (f := badW) e1
    rw [hn, Bool.false_or] at ht
    have hlen := encPs_len (l.take k)
    have htl : (l.take k).length ≤ 1000 := by rw [List.length_take]; omega
    cases hb : badW p with
    | false =>
      left
      rw [rwrite_step (by omega) e1 hb (by omega) h]
      refine ⟨_, rfl, ⟨k + 1, rfl, by omega, ?_, by rw [ht, hb]⟩, by simp only; omega⟩
      rw [encPs_snoc e1]
    | true =>
      right
      have m1 : (l.map toArr)[k]? = some (toArr p) := by rw [List.getElem?_map, e1]; rfl
      have hany : l.any badW = true := any_of_take (k := k + 1) (by rw [ht, hb])
      have stop : ∃ r, (Option.map Sum.inr (some (([] : List Int), (10 : Int))) : Option ((Int × List Int) ⊕ (List Int × Int))) = some (.inr r) ∧ ((r = ([], 10) ∧ l.any badW = true) ∨ (r = ([], 18) ∧ l.any badW = false ∧ ¬ordP l) ∨ (r = (encPs l, 0) ∧ l.any badW = false ∧ ordP l)) := ⟨_, rfl, .inl ⟨rfl, hany⟩⟩
      simp only [jetsamref12_WritePoints_L1]
      rw [if_pos (by rw [List.length_map]; simpa using h)]
      simp only [idx_ok m1, Option.bind_some]
      by_cases c1 : (toArr p).a0 < -1
      · rw [if_pos (decide_eq_true c1)]; exact stop
      rw [if_neg (fun e => c1 (of_decide_eq_true e))]
      by_cases c2 : (toArr p).a1 < 0
      · rw [if_pos (decide_eq_true c2)]; exact stop
      rw [if_neg (fun e => c2 (of_decide_eq_true e))]
      by_cases c3 : (toArr p).a2 < 0
      · rw [if_pos (decide_eq_true c3)]; exact stop
      rw [if_neg (fun e => c3 (of_decide_eq_true e))]
      by_cases c4 : (toArr p).a2 > 65535
      · rw [if_pos (decide_eq_true c4)]; exact stop
      exfalso
      simp only [toArr] at c1 c2 c3 c4
      have := (badW_iff p).2 ⟨by omega, by omega, by omega, by omega⟩
      rw [hb] at this; cases this
  · right
    have : k = l.length := by omega
    subst this
    simp only [jetsamref12_WritePoints_L1]
    rw [if_neg (by rw [List.length_map]; simp)]
    rw [List.take_length] at hn ⊢
    have hs : ∀ p, p ∈ l → -1 ≤ p.Sample := fun p hp => by
      have : badW p = false := by
        cases hb : badW p with
        | false => rfl
        | true => rw [List.any_eq_false] at hn; exact absurd hb (hn p hp)
      exact ((badW_iff p).1 this).1
    obtain ⟨r, h1, h2⟩ := ordered_of l (by omega) hs
    simp only [jetsamref12_WritePoints_K1, h1, Option.bind_some]
    rcases h2 with ⟨rfl, ho⟩ | ⟨rfl, ho⟩
    · exact ⟨_, rfl, .inr (.inr ⟨rfl, hn, ho⟩)⟩
    · exact ⟨_, rfl, .inr (.inl ⟨rfl, hn, ho⟩)⟩
end Go.Vg

/- Points: what is read. -/
namespace Go.Vg
open Go

def decP (c : List Int) : blocks_Point := ⟨numW (c.take 8), numW ((c.drop 8).take 8), numW (c.drop 16)⟩
def badR (p : blocks_Point) : Bool := if decide (p.Sample < (-1)) = true then true else decide (p.Offset < 0)
def ptsY (y : List Int) : List blocks_Point := (chunkN 18 y).map decP

theorem split18 {l : List Int} (h18 : 18 ≤ l.length) : ∃ a b c d e f g h i j k m n o p q r s T, l = a :: b :: c :: d :: e :: f :: g :: h :: i :: j :: k :: m :: n :: o :: p :: q :: r :: s :: T := by
  have st : ∀ {l : List Int} {n : Nat}, n + 1 ≤ l.length → ∃ x t, l = x :: t ∧ n ≤ t.length := fun {l n} h => by
    cases l with
    | nil => simp at h
    | cons x t => exact ⟨x, t, rfl, by simp at h; omega⟩
  obtain ⟨a, l0, rfl, h17⟩ := st h18
  obtain ⟨b, l1, rfl, h16⟩ := st h17
  obtain ⟨c, l2, rfl, h15⟩ := st h16
  obtain ⟨d, l3, rfl, h14⟩ := st h15
  obtain ⟨e, l4, rfl, h13⟩ := st h14
  obtain ⟨f, l5, rfl, h12⟩ := st h13
  obtain ⟨g, l6, rfl, h11⟩ := st h12
  obtain ⟨x8, l7, rfl, h10⟩ := st h11
  obtain ⟨i, l8, rfl, h9⟩ := st h10
  obtain ⟨j, l9, rfl, h8⟩ := st h9
  obtain ⟨k, l10, rfl, h7⟩ := st h8
  obtain ⟨m, l11, rfl, h6⟩ := st h7
  obtain ⟨n, l12, rfl, h5⟩ := st h6
  obtain ⟨o, l13, rfl, h4⟩ := st h5
  obtain ⟨p, l14, rfl, h3⟩ := st h4
  obtain ⟨q, l15, rfl, h2⟩ := st h3
  obtain ⟨r, l16, rfl, h1⟩ := st h2
  obtain ⟨s, l17, rfl, h0⟩ := st h1
  exact ⟨_, _, _, _, _, _, _, _, _, _, _, _, _, _, _, _, _, _, _, rfl⟩

theorem chunk_len (y : List Int) (q : Nat) (h : y.length = 18 * q) : (chunkN 18 y).length = q := by
  simp only [chunkN, List.length_map, List.length_range]; omega
theorem chunk_at (y : List Int) (q : Nat) (h : y.length = 18 * q) (k : Nat) (hk : k < q) : (chunkN 18 y)[k]? = some ((y.drop (k * 18)).take 18) := by
  simp only [chunkN]
  rw [List.getElem?_map, List.getElem?_range (by omega)]; rfl
theorem chunk_mem (y : List Int) (q : Nat) (h : y.length = 18 * q) (hb : ∀ x, x ∈ y → isB x) : ∀ e, e ∈ chunkN 18 y → e.length = 18 ∧ ∀ x, x ∈ e → isB x := fun e he => by
  obtain ⟨k, hk⟩ := List.mem_iff_getElem?.1 he
  have hlt : k < q := by
    have := (List.getElem?_eq_some_iff.1 hk).1
    rw [chunk_len y q h] at this; exact this
  rw [chunk_at y q h k hlt] at hk
  cases hk
  refine ⟨by rw [List.length_take, List.length_drop]; omega, fun x hx => hb x (List.mem_of_mem_drop (List.mem_of_mem_take hx))⟩

theorem fold_pts : ∀ (ES : List (List Int)) (acc : List blocks_Point), (∀ e, e ∈ ES → e.length = 18 ∧ ∀ x, x ∈ e → isB x) → acc.length + ES.length ≤ 1000 →
    foldR blocks_Points_L1 blocks_Points_K2 blocks_Points_K3 ES acc = if (ES.map decP).any badR = true then some ([], 10) else blocks_Points_K1 (acc ++ ES.map decP)
  | [], acc, _, _ => by simp [foldR, blocks_Points_K2]
  | e :: r, acc, hE, hl => by
    obtain ⟨h18, hb⟩ := hE e (List.mem_cons_self ..)
    have ih := fold_pts r
    have s1 : sub e 0 8 = some (e.take 8) := by rw [sub_nat (i := 0) (j := 8) (a := 0) (b := 8) rfl rfl (by omega) (by omega)]; rfl
    have s2 : sub e 8 16 = some ((e.drop 8).take 8) := sub_nat (i := 8) (j := 16) (a := 8) (b := 16) rfl rfl (by omega) (by omega)
    have s3 : sub e 16 (e.length : Int) = some (e.drop 16) := by
      rw [sub_nat (i := 16) (j := (e.length : Int)) (a := 16) (b := e.length) rfl rfl (by omega) (by omega), List.take_of_length_le (by rw [List.length_drop]; omega)]
    have n1 : blocks_number (e.take 8) = some (decP e).Sample := number_eq (by rw [List.length_take]; omega) fun x hx => hb x (List.mem_of_mem_take hx)
    have n2 : blocks_number ((e.drop 8).take 8) = some (decP e).Offset := number_eq (by rw [List.length_take]; omega) fun x hx => hb x (List.mem_of_mem_drop (List.mem_of_mem_take hx))
    have n3 : blocks_number (e.drop 16) = some (decP e).Count := number_eq (by rw [List.length_drop]; omega) fun x hx => hb x (List.mem_of_mem_drop hx)
    have hstep : blocks_Points_L1 e acc = if badR (decP e) = true then some (.inr acc) else some (.inl (acc ++ [decP e])) := by
      simp only [blocks_Points_L1, s1, s2, s3, n1, n2, n3, Option.bind_some]
      rw [List.length_cons] at hl
      rw [app_ok (by rw [List.length_singleton]; omega)]
      rfl
    simp only [foldR]
    rw [hstep, List.map_cons, List.any_cons]
    cases hbad : badR (decP e) with
    | true => simp [blocks_Points_K3]
    | false =>
      rw [if_neg (by simp)]
      simp only [Bool.false_or]
      rw [ih (acc ++ [decP e]) (fun e' he' => hE e' (List.mem_cons_of_mem _ he')) (by rw [List.length_append, List.length_singleton]; rw [List.length_cons] at hl; omega), List.append_assoc]
      rfl

def PtsSpec (y : List Int) (f : blocks_Point → blocks_Point) (ps : List blocks_Point) (er : Int) : Prop :=
  (ps = [] ∧ er = 12 ∧ y.length % 18 ≠ 0) ∨ (y.length % 18 = 0 ∧ ((ps = [] ∧ er = 10 ∧ (ptsY y).any badR = true) ∨ (ps = [] ∧ er = 18 ∧ (ptsY y).any badR = false ∧ ¬ordP (ptsY y)) ∨ (ps = (ptsY y).map f ∧ er = 0 ∧ (ptsY y).any badR = false ∧ ordP (ptsY y))))

theorem pts_of (y : List Int) (hy : y.length ≤ 1000) (hb : ∀ x, x ∈ y → isB x) : ∃ r, blocks_Points y = some r ∧ PtsSpec y id r.1 r.2 := by
  unfold blocks_Points
  have hm : ((y.length : Int).tmod 18) = ((y.length % 18 : Nat) : Int) := by rw [Int.tmod_eq_emod_of_nonneg (by omega)]; omega
  rw [hm]
  by_cases h : y.length % 18 = 0
  case neg =>
    rw [if_pos (by simp; omega)]
    exact ⟨_, rfl, .inl ⟨rfl, rfl, h⟩⟩
  rw [if_neg (by simp; omega)]
  obtain ⟨q, hq⟩ : ∃ q, y.length = 18 * q := ⟨y.length / 18, by omega⟩
  have hc : chunkF y 18 = some (chunkN 18 y) := by unfold chunkF; rw [if_pos ⟨by omega, by omega, by omega⟩]; rfl
  have hcl := chunk_len y q hq
  have hpl : (ptsY y).length ≤ 1000 := by rw [ptsY, List.length_map, hcl]; omega
  rw [hc]
  simp only [Option.bind_some]
  rw [fold_pts _ _ (chunk_mem y q hq hb) (by rw [hcl, List.length_nil]; omega)]
  simp only [List.nil_append]
  change ∃ r, (if (ptsY y).any badR = true then some ([], 10) else blocks_Points_K1 (ptsY y)) = some r ∧ _
  cases hbad : (ptsY y).any badR with
  | true =>
    rw [if_pos rfl]
    exact ⟨_, rfl, .inr ⟨h, .inl ⟨rfl, rfl, hbad⟩⟩⟩
  | false =>
    rw [if_neg (by simp)]
    obtain ⟨r, h1, h2⟩ := order_of (ptsY y) (by omega)
    simp only [blocks_Points_K1]
    rw [h1]
    simp only [Option.bind_some]
    rcases h2 with ⟨rfl, ho⟩ | ⟨rfl, ho⟩
    · rw [if_neg (by decide)]
      exact ⟨_, rfl, .inr ⟨h, .inr (.inr ⟨by rw [List.map_id], rfl, hbad, ho⟩)⟩⟩
    · rw [if_pos (by decide)]
      exact ⟨_, rfl, .inr ⟨h, .inr (.inl ⟨rfl, rfl, hbad, ho⟩)⟩⟩

/-- The document's number of 8 bytes. -/
theorem rnum_of (l : List Int) (hl : l.length = 8) (hb : ∀ x, x ∈ l → isB x) : ∃ v, jetsamref12_number l = some v ∧ (v = numW l ∨ (v = -2 ∧ numW l < -1)) := by
  obtain ⟨a, b, c, d, e, f, g, h, rfl⟩ : ∃ a b c d e f g h : Int, l = [a, b, c, d, e, f, g, h] := by
    match l, hl with
    | [a, b, c, d, e, f, g, h], _ => exact ⟨a, b, c, d, e, f, g, h, rfl⟩
  have ha : isB a := hb _ (by simp)
  have hb' : isB b := hb _ (by simp)
  have hc : isB c := hb _ (by simp)
  have hd : isB d := hb _ (by simp)
  have he : isB e := hb _ (by simp)
  have hf : isB f := hb _ (by simp)
  have hg : isB g := hb _ (by simp)
  have hh : isB h := hb _ (by simp)
  have hloop : iter (jetsamref12_number_L1 [a, b, c, d, e, f, g, h]) (0, 0) = some (numW [a, b, c, d, e, f, g, h]) := by
    have h1 : iter (jetsamref12_number_L1 [a, b, c, d, e, f, g, h]) (0, 0) = some (W (W (W (W (W (W (W (W (W (W (W (W (W (W (W (W (0 * 256) + a) * 256) + b) * 256) + c) * 256) + d) * 256) + e) * 256) + f) * 256) + g) * 256) + h)) := iter_n 9 (by omega) rfl
    have hW : ∀ u v : Int, W (W u + v) = W (u + v) := fun u v => wrap_mod (by simp only [W, IntKind.wrap_i64]; omega)
    rw [h1]
    simp only [hW, numW, List.foldl_cons, List.foldl_nil]
  have hall : ∀ r, jetsamref12_number_K1 [a, b, c, d, e, f, g, h] ([a, b, c, d, e, f, g, h].all (· == 255)) = r → jetsamref12_number [a, b, c, d, e, f, g, h] = r := fun r hr => by
    subst hr
    have hK : ∃ v, jetsamref12_number_K1 [a, b, c, d, e, f, g, h] ([a, b, c, d, e, f, g, h].all (· == 255)) = some v := by
      simp only [jetsamref12_number_K1]
      split
      · exact ⟨_, rfl⟩
      · rw [idx_W (i := 0) (k := 0) (x := a) rfl rfl]
        simp only [Option.bind_some]
        split
        · exact ⟨_, rfl⟩
        · exact ⟨_, hloop⟩
    obtain ⟨v, hv⟩ := hK
    rw [hv]
    unfold jetsamref12_number
    refine iter_eq (fun s : Bool × Int => ∃ k : Nat, s.2 = k ∧ k ≤ 8 ∧ s.1 = ([a, b, c, d, e, f, g, h].take k).all (· == 255)) (fun s => (8 - s.2).toNat) _ (fun s hs => ?_) ⟨0, rfl, by omega, rfl⟩ (lt_ROUNDS (by simp only; omega))
    obtain ⟨fl, k'⟩ := s
    obtain ⟨k, rfl, hk, rfl⟩ := hs
    simp only [jetsamref12_number_L2]
    by_cases hk8 : k < 8
    · left
      obtain ⟨x, hx⟩ : ∃ x, [a, b, c, d, e, f, g, h][k]? = some x := ⟨_, List.getElem?_eq_getElem (by simpa using hk8)⟩
      have hs : ([a, b, c, d, e, f, g, h].take (k + 1)).all (· == 255) = (([a, b, c, d, e, f, g, h].take k).all (· == 255) && (x == 255)) := by
        rw [List.take_add_one, hx]; simp
      rw [if_pos (by simp; omega), W_succ _ (by omega)]
      cases hfl : ([a, b, c, d, e, f, g, h].take k).all (· == 255) with
      | true =>
        rw [if_pos rfl, idx_ok hx]
        exact ⟨_, rfl, ⟨k + 1, rfl, by omega, by rw [hs, hfl]; rfl⟩, by simp only; omega⟩
      | false =>
        rw [if_neg (by simp)]
        exact ⟨_, rfl, ⟨k + 1, rfl, by omega, by rw [hs, hfl]; rfl⟩, by simp only; omega⟩
    · right
      have : k = 8 := by omega
      subst this
      rw [if_neg (by simp)]
      exact congrArg _ hv
  by_cases hA : a = 255 ∧ b = 255 ∧ c = 255 ∧ d = 255 ∧ e = 255 ∧ f = 255 ∧ g = 255 ∧ h = 255
  · obtain ⟨rfl, rfl, rfl, rfl, rfl, rfl, rfl, rfl⟩ := hA
    exact ⟨-1, hall _ rfl, .inl (by decide)⟩
  have hn : [a, b, c, d, e, f, g, h].all (· == 255) = false := by
    cases hx : [a, b, c, d, e, f, g, h].all (· == 255) with
    | false => rfl
    | true => simp at hx; exact absurd (by simp [hx]) hA
  have key := hall _ rfl
  rw [hn] at key
  simp only [jetsamref12_number_K1] at key
  rw [if_neg (by simp), idx_W (i := 0) (k := 0) (x := a) rfl rfl] at key
  simp only [Option.bind_some] at key
  by_cases h7 : 127 < a
  · rw [if_pos (by simpa using h7)] at key
    refine ⟨_, key, .inr ⟨rfl, ?_⟩⟩
    rw [numW8]
    simp only [W, IntKind.wrap_i64]
    unfold isB at *
    omega
  · rw [if_neg (by simpa using h7), hloop] at key
    exact ⟨_, key, .inl rfl⟩
end Go.Vg

/- Points: the laws. -/
namespace Go.Vg
open Go

theorem take_pts {y : List Int} {q k : Nat} (h : y.length = 18 * q) (hk : k < q) : (ptsY y)[k]? = some (decP ((y.drop (k * 18)).take 18)) := by
  rw [ptsY, List.getElem?_map, chunk_at y q h k hk]; rfl

theorem badR_iff (p : blocks_Point) : badR p = true ↔ p.Sample < -1 ∨ p.Offset < 0 := by
  unfold badR
  by_cases h1 : p.Sample < -1
  · simp [h1]
  · simp [h1]

theorem rpts_of (y : List Int) (hy : y.length ≤ 1000) (hb : ∀ x, x ∈ y → isB x) : ∃ r, jetsamref12_Points y = some r ∧ ∃ ps, r.1 = ps.map toArr ∧ PtsSpec y id ps r.2 := by
  unfold jetsamref12_Points
  have hm : ((y.length : Int).tmod 18) = ((y.length % 18 : Nat) : Int) := by rw [Int.tmod_eq_emod_of_nonneg (by omega)]; omega
  rw [hm]
  by_cases h : y.length % 18 = 0
  case neg =>
    rw [if_pos (by simp; omega)]
    exact ⟨_, rfl, [], rfl, .inl ⟨rfl, rfl, h⟩⟩
  rw [if_neg (by simp; omega)]
  obtain ⟨q, hq⟩ : ∃ q, y.length = 18 * q := ⟨y.length / 18, by omega⟩
  have hql : (ptsY y).length = q := by rw [ptsY, List.length_map, chunk_len y q hq]
  refine iter_of (fun a : Int × List (Arr3 Int) => ∃ k : Nat, a.1 = ((k * 18 : Nat) : Int) ∧ k ≤ q ∧ a.2 = ((ptsY y).take k).map toArr ∧ ((ptsY y).take k).any badR = false) (fun a => (y.length - a.1).toNat) _ (fun a ha => ?_) ⟨0, rfl, by omega, rfl, by simp⟩ (lt_ROUNDS (by simp only; omega))
  obtain ⟨k', v⟩ := a
  obtain ⟨k, rfl, hk, rfl, hn⟩ := ha
  simp only [jetsamref12_Points_L1]
  by_cases hkq : k < q
  · rw [if_pos (by simp; omega)]
    have w8 : W (((k * 18 : Nat) : Int) + 8) = ((k * 18 + 8 : Nat) : Int) := by rw [W_id (by omega) (by omega)]; omega
    have w16 : W (((k * 18 : Nat) : Int) + 16) = ((k * 18 + 16 : Nat) : Int) := by rw [W_id (by omega) (by omega)]; omega
    have w17 : W (((k * 18 : Nat) : Int) + 17) = ((k * 18 + 17 : Nat) : Int) := by rw [W_id (by omega) (by omega)]; omega
    have w18 : W (((k * 18 : Nat) : Int) + 18) = (((k + 1) * 18 : Nat) : Int) := by rw [W_id (by omega) (by omega)]; omega
    obtain ⟨c0, c1, c2, c3, c4, c5, c6, c7, c8, c9, c10, c11, c12, c13, c14, c15, c16, c17, T, hT⟩ := split18 (l := y.drop (k * 18)) (by rw [List.length_drop]; omega)
    have e1 := take_pts hq hkq
    rw [hT] at e1
    generalize hp : decP (List.take 18 (c0 :: c1 :: c2 :: c3 :: c4 :: c5 :: c6 :: c7 :: c8 :: c9 :: c10 :: c11 :: c12 :: c13 :: c14 :: c15 :: c16 :: c17 :: T)) = p at e1
    have p0 : numW [c0, c1, c2, c3, c4, c5, c6, c7] = p.Sample := by rw [← hp]; rfl
    have p1 : numW [c8, c9, c10, c11, c12, c13, c14, c15] = p.Offset := by rw [← hp]; rfl
    have p2 : numW [c16, c17] = p.Count := by rw [← hp]; rfl
    have hin : ∀ x, x ∈ y.drop (k * 18) → isB x := fun x hx => hb x (List.mem_of_mem_drop hx)
    rw [hT] at hin
    have g16 : y[k * 18 + 16]? = some c16 := by rw [← List.getElem?_drop, hT]; rfl
    have g17 : y[k * 18 + 17]? = some c17 := by rw [← List.getElem?_drop, hT]; rfl
    have s1 : sub y ((k * 18 : Nat) : Int) ((k * 18 + 8 : Nat) : Int) = some [c0, c1, c2, c3, c4, c5, c6, c7] := by
      rw [sub_nat (l := y) rfl rfl (by omega) (by omega), hT, show k * 18 + 8 - k * 18 = 8 by omega]; rfl
    have s2 : sub y ((k * 18 + 8 : Nat) : Int) ((k * 18 + 16 : Nat) : Int) = some [c8, c9, c10, c11, c12, c13, c14, c15] := by
      rw [sub_nat (l := y) rfl rfl (by omega) (by omega), ← List.drop_drop, hT, show k * 18 + 16 - (k * 18 + 8) = 8 by omega]; rfl
    obtain ⟨v1, n1, r1⟩ := rnum_of [c0, c1, c2, c3, c4, c5, c6, c7] rfl (fun x hx => hin x (List.mem_of_mem_take (i := 8) hx))
    obtain ⟨v2, n2, r2⟩ := rnum_of [c8, c9, c10, c11, c12, c13, c14, c15] rfl (fun x hx => hin x (List.mem_of_mem_drop (i := 8) (List.mem_of_mem_take (i := 8) hx)))
    have i16 : isB c16 := hin _ (by simp)
    have i17 : isB c17 := hin _ (by simp)
    have h2 : W (W (c16 * 256) + c17) = p.Count := by
      rw [← p2, num2 i16 i17]
      unfold isB at *
      rw [W_id (x := c16 * 256) (by omega) (by omega), W_id (by omega) (by omega)]
    rw [p0] at r1; rw [p1] at r2
    rw [w8, w16, w17, w18, s1, s2, idx_ok g16, idx_ok g17]
    simp only [Option.bind_some, n1, n2, h2]
    have ht := anyTake (f := badR) e1
    rw [hn, Bool.false_or] at ht
    have stop : badR p = true → ∃ r, (Option.map Sum.inr (some (([] : List (Arr3 Int)), (10 : Int))) : Option ((Int × List (Arr3 Int)) ⊕ (List (Arr3 Int) × Int))) = some (.inr r) ∧ ∃ ps, r.1 = ps.map toArr ∧ PtsSpec y id ps r.2 := fun hbad =>
      ⟨_, rfl, [], rfl, .inr ⟨h, .inl ⟨rfl, rfl, any_of_take (k := k + 1) (by rw [ht, hbad])⟩⟩⟩
    by_cases hA : v1 < -1
    · right
      rw [if_pos (by simpa using hA)]
      exact stop ((badR_iff p).2 (.inl (by omega)))
    rw [if_neg (by simpa using hA)]
    have hv1 : v1 = p.Sample := by omega
    by_cases hB : v2 < 0
    · right
      rw [if_pos (by simpa using hB)]
      exact stop ((badR_iff p).2 (.inr (by omega)))
    left
    rw [if_neg (by simpa using hB)]
    have hv2 : v2 = p.Offset := by omega
    have hgood : badR p = false := by
      cases hbad : badR p with
      | false => rfl
      | true => have := (badR_iff p).1 hbad; omega
    rw [app_ok (by simp only [List.length_map, List.length_take, List.length_cons, List.length_nil]; omega)]
    simp only [Option.bind_some]
    refine ⟨_, rfl, ⟨k + 1, rfl, by omega, ?_, by rw [ht, hgood]⟩, by simp only; omega⟩
    simp only
    rw [List.take_add_one, e1, Option.toList_some, List.map_append, hv1, hv2]
    rfl
  · right
    have : k = q := by omega
    subst this
    rw [if_neg (by simp; omega)]
    rw [show (ptsY y).take k = ptsY y from List.take_of_length_le (by omega)] at hn ⊢
    have hs : ∀ p, p ∈ ptsY y → -1 ≤ p.Sample := fun p hp => by
      have h1 : ¬badR p = true := List.any_eq_false.1 hn p hp
      rw [badR_iff] at h1; omega
    obtain ⟨r, h1, h2⟩ := ordered_of (ptsY y) (by omega) hs
    simp only [jetsamref12_Points_K1, h1, Option.bind_some]
    rcases h2 with ⟨rfl, ho⟩ | ⟨rfl, ho⟩
    · exact ⟨_, rfl, ptsY y, rfl, .inr ⟨h, .inr (.inr ⟨by rw [List.map_id], rfl, hn, ho⟩)⟩⟩
    · exact ⟨_, rfl, [], rfl, .inr ⟨h, .inr (.inl ⟨rfl, rfl, hn, ho⟩)⟩⟩

theorem same3_eq (l : List (Arr3 Int)) (hl : l.length ≤ 1000000) : jetsamlaw12_same l l = some true := by
  unfold jetsamlaw12_same
  rw [if_neg (by simp)]
  refine iter_eq (fun i : Int => ∃ k : Nat, i = k ∧ k ≤ l.length) (fun i => (l.length - i).toNat) _ (fun i hi => ?_) ⟨0, rfl, by omega⟩ (lt_ROUNDS (by omega))
  obtain ⟨k, rfl, hk⟩ := hi
  simp only [jetsamlaw12_same_L1]
  by_cases h : k < l.length
  · left
    have e1 : l[k]? = some l[k] := List.getElem?_eq_getElem h
    rw [if_pos (by simpa using h), idx_ok e1]
    simp only [Option.bind_some]
    rw [if_neg (by simp)]
    refine ⟨_, rfl, ⟨k + 1, W_succ _ (by omega), by omega⟩, ?_⟩
    · rw [W_succ _ (by omega)]; omega
  · right
    rw [if_neg (by simpa using h)]
    rfl

theorem spec_uniq {y : List Int} {ps ps' : List blocks_Point} {e e' : Int} (h : PtsSpec y id ps e) (h' : PtsSpec y id ps' e') : ps = ps' ∧ e = e' := by
  rcases h with ⟨rfl, rfl, h0⟩ | ⟨h0, h⟩ <;> rcases h' with ⟨rfl, rfl, h0'⟩ | ⟨h0', h'⟩
  · exact ⟨rfl, rfl⟩
  · exact absurd h0' h0
  · exact absurd h0 h0'
  · rcases h with ⟨rfl, rfl, h1⟩ | ⟨rfl, rfl, h1, h2⟩ | ⟨rfl, rfl, h1, h2⟩ <;> rcases h' with ⟨rfl, rfl, h1'⟩ | ⟨rfl, rfl, h1', h2'⟩ | ⟨rfl, rfl, h1', h2'⟩ <;> simp_all

theorem ptsY_len (y : List Int) (h : y.length % 18 = 0) : (ptsY y).length * 18 = y.length := by
  rw [ptsY, List.length_map, chunk_len y (y.length / 18) (by omega)]; omega

theorem law_BlocksPoints (l : List blocks_Point) (y : List Int) (hb : ∀ x, x ∈ y → isB x) : jetsamlaw12_BlocksPoints l y = some true := by
  unfold jetsamlaw12_BlocksPoints
  simp only [awake12, Option.bind_some]
  by_cases hl : l.length ≤ 40
  case neg => rw [if_pos (by simp; omega)]
  by_cases hy : y.length ≤ 500
  case neg => rw [if_pos (by simp; omega)]
  rw [if_neg (by simp; omega)]
  obtain ⟨r2, h1, h2⟩ := wpts_of l (by omega)
  obtain ⟨r4, h3, h4⟩ := rwpts_of l (by omega)
  rw [h1, points_eq l (by omega)]
  simp only [Option.bind_some, h3]
  have hr : r2 = r4 ∧ (r4.2 ≠ 0 → r4.1 = []) ∧ r4.1.length ≤ 1000 := by
    have hlen := encPs_len l
    rcases h2 with ⟨rfl, h2⟩ | ⟨rfl, h2, h2'⟩ | ⟨rfl, h2, h2'⟩ <;> rcases h4 with ⟨rfl, h4⟩ | ⟨rfl, h4, h4'⟩ | ⟨rfl, h4, h4'⟩ <;> simp_all
    omega
  obtain ⟨rfl, hr1, hr2⟩ := hr
  have key : jetsamlaw12_BlocksPoints_K1 y r2 r2 r2.1 = some true := by
    simp only [jetsamlaw12_BlocksPoints_K1]
    rw [bytes_same _ (by omega)]
    simp only [Option.bind_some]
    rw [if_neg (by simp)]
    obtain ⟨r7, g1, g2⟩ := pts_of y (by omega) hb
    obtain ⟨r8, g3, ps, g4, g5⟩ := rpts_of y (by omega) hb
    obtain ⟨hps, her⟩ := spec_uniq g2 g5
    subst hps
    have hlen : r7.1.length ≤ 1000 := by
      rcases g2 with ⟨h, _⟩ | ⟨h0, ⟨h, _⟩ | ⟨h, _⟩ | ⟨h, _⟩⟩
      · rw [h]; simp
      · rw [h]; simp
      · rw [h]; simp
      · rw [h, List.length_map]; have := ptsY_len y h0; omega
    rw [g1]
    simp only [Option.bind_some, g3]
    rw [points_eq _ (by omega), g4]
    simp only [Option.bind_some]
    rw [same3_eq _ (by rw [List.length_map]; omega)]
    simp only [Option.bind_some]
    rw [if_pos (by simp [her]), awake12]
    rfl
  by_cases he : r2.2 = 0
  · rw [if_neg (by simp [he])]; exact key
  · rw [if_pos (by simpa using he), ← hr1 he]; exact key

theorem flatten_chunks (y : List Int) (q : Nat) (h : y.length = 18 * q) : (chunkN 18 y).flatten = y := by
  have : ∀ k, k ≤ q → ((chunkN 18 y).take k).flatten = y.take (k * 18) := by
    intro k
    induction k with
    | zero => simp
    | succ k ih =>
      intro hk
      rw [List.take_add_one, chunk_at y q h k (by omega), Option.toList_some, List.flatten_append, ih (by omega), show (k + 1) * 18 = k * 18 + 18 by omega, List.take_add]
      simp
  have hq := this q (Nat.le_refl _)
  rw [List.take_of_length_le (by rw [chunk_len y q h]; omega), List.take_of_length_le (by omega)] at hq
  exact hq
theorem enc_dec (c : List Int) (h : c.length = 18) (hb : ∀ x, x ∈ c → isB x) : encP (decP c) = c := by
  obtain ⟨c0, c1, c2, c3, c4, c5, c6, c7, c8, c9, c10, c11, c12, c13, c14, c15, c16, c17, T, rfl⟩ := split18 (l := c) (by omega)
  have hT : T = [] := by cases T with
    | nil => rfl
    | cons _ _ => simp at h
  subst hT
  simp only [encP, decP, List.take_succ_cons, List.take_zero, List.drop_succ_cons, List.drop_zero]
  rw [b8_num (hb _ (by simp)) (hb _ (by simp)) (hb _ (by simp)) (hb _ (by simp)) (hb _ (by simp)) (hb _ (by simp)) (hb _ (by simp)) (hb _ (by simp)),
    b8_num (hb _ (by simp)) (hb _ (by simp)) (hb _ (by simp)) (hb _ (by simp)) (hb _ (by simp)) (hb _ (by simp)) (hb _ (by simp)) (hb _ (by simp)),
    b2_num (hb _ (by simp)) (hb _ (by simp))]
  rfl
theorem enc_pts (y : List Int) (q : Nat) (h : y.length = 18 * q) (hb : ∀ x, x ∈ y → isB x) : encPs (ptsY y) = y := by
  have hmem := chunk_mem y q h hb
  have : (ptsY y).map encP = chunkN 18 y := by
    rw [ptsY, List.map_map]
    conv => rhs; rw [← List.map_id (chunkN 18 y)]
    refine List.map_congr_left fun c hc => ?_
    exact enc_dec c (hmem c hc).1 (hmem c hc).2
  rw [encPs, this]
  exact flatten_chunks y q h
theorem dec_enc (p : blocks_Point) (h : badW p = false) (h1 : p.Sample ≤ 9223372036854775807) (h2 : p.Offset ≤ 9223372036854775807) : decP (encP p) = p := by
  obtain ⟨g1, g2, g3, g4⟩ := (badW_iff p).1 h
  have e1 : (encP p).take 8 = b8 p.Sample := rfl
  have e2 : ((encP p).drop 8).take 8 = b8 p.Offset := rfl
  have e3 : (encP p).drop 16 = b2 p.Count := rfl
  simp only [decP, e1, e2, e3]
  rw [num_b8 (by omega) h1, num_b8 (by omega) h2, num_b2 g3 g4]
theorem pts_enc (l : List blocks_Point) (h : l.any badW = false) (hi : ∀ p, p ∈ l → p.Sample ≤ 9223372036854775807 ∧ p.Offset ≤ 9223372036854775807) : ptsY (encPs l) = l := by
  have hlen := encPs_len l
  refine List.ext_getElem? fun k => ?_
  by_cases hk : k < l.length
  · obtain ⟨p, e⟩ : ∃ p, l[k]? = some p := ⟨_, List.getElem?_eq_getElem hk⟩
    have hm := List.mem_of_getElem? e
    rw [take_pts (q := l.length) (by omega) hk, e]
    have hsplit : encPs l = encPs (l.take k) ++ (encP p ++ encPs (l.drop (k + 1))) := by
      have h1 : encPs l = encPs (l.take (k + 1)) ++ encPs (l.drop (k + 1)) := by
        simp only [encPs]; rw [← List.flatten_append, ← List.map_append, List.take_append_drop]
      rw [h1, encPs_snoc e, List.append_assoc]
    have hl2 : (encPs (l.take k)).length = k * 18 := by rw [encPs_len, List.length_take]; omega
    rw [hsplit, ← hl2, List.drop_left, show 18 = (encP p).length from rfl, List.take_left]
    congr 1
    refine dec_enc p ?_ (hi p hm).1 (hi p hm).2
    cases hb : badW p with
    | false => rfl
    | true => exact absurd hb (List.any_eq_false.1 h p hm)
  · have hpl : (ptsY (encPs l)).length = l.length := by rw [ptsY, List.length_map, chunk_len _ l.length (by omega)]
    rw [List.getElem?_eq_none (by omega), List.getElem?_eq_none (by omega)]
end Go.Vg

/- Points of WritePoints is the points, and WritePoints of Points the bytes; what stands in order is there once. -/
namespace Go.Vg
open Go

theorem any_iff {l : List blocks_Point} (h : l.any badW = false) {p : blocks_Point} (hp : p ∈ l) : badW p = false := by
  cases hb : badW p with
  | false => rfl
  | true => exact absurd hb (List.any_eq_false.1 h p hp)

theorem ord_lt {l : List blocks_Point} (ho : ordP l) (hb : ∀ p, p ∈ l → -1 ≤ p.Sample) : ∀ (i : Nat) (p : blocks_Point), l[i]? = some p → 0 ≤ p.Sample → ∀ (j : Nat) (q : blocks_Point), j < i → l[j]? = some q → q.Sample < p.Sample
  | 0, _, _, _, j, _, hj, _ => by omega
  | i + 1, p, hp, h0, j, q, hj, hq => by
    have hlt := (List.getElem?_eq_some_iff.1 hp).1
    obtain ⟨p', e'⟩ : ∃ p', l[i]? = some p' := ⟨_, List.getElem?_eq_getElem (by omega)⟩
    have hok := ho i p' p (by omega) e' hp
    have hb' := hb p' (List.mem_of_getElem? e')
    have h1 : p'.Sample < p.Sample ∧ p'.Sample ≠ -1 := by
      unfold okPair at hok
      simp at hok
      omega
    by_cases hji : j = i
    · subst hji
      rw [e'] at hq; cases hq
      exact h1.1
    · have := ord_lt ho hb i p' e' (by omega) j q (by omega) hq
      omega

theorem cnt_pts (y : List Int) (q : Nat) (h : y.length = 18 * q) (hb : ∀ x, x ∈ y → isB x) : ∀ p, p ∈ ptsY y → 0 ≤ p.Count ∧ p.Count ≤ 65535 := fun p hp => by
  rw [ptsY, List.mem_map] at hp
  obtain ⟨c, hc, rfl⟩ := hp
  obtain ⟨h1, h2⟩ := chunk_mem y q h hb c hc
  obtain ⟨c0, c1, c2, c3, c4, c5, c6, c7, c8, c9, c10, c11, c12, c13, c14, c15, c16, c17, T, rfl⟩ := split18 (l := c) (by omega)
  have hT : T = [] := by cases T with
    | nil => rfl
    | cons _ _ => simp at h1
  subst hT
  have e : (decP [c0, c1, c2, c3, c4, c5, c6, c7, c8, c9, c10, c11, c12, c13, c14, c15, c16, c17]).Count = numW [c16, c17] := rfl
  have i16 : isB c16 := h2 _ (by simp)
  have i17 : isB c17 := h2 _ (by simp)
  rw [e, num2 i16 i17]
  unfold isB at i16 i17
  omega

theorem table_K1 (y : List Int) (hy : y.length ≤ 500) (hb : ∀ x, x ∈ y → isB x) : jetsamlaw12_BlocksTable_K1 y () = some true := by
  unfold jetsamlaw12_BlocksTable_K1
  obtain ⟨r, h1, h2⟩ := pts_of y (by omega) hb
  obtain ⟨ps, er⟩ := r
  rw [h1]
  simp only [Option.bind_some, awake12]
  simp only at h2
  rcases h2 with ⟨rfl, rfl, _⟩ | ⟨h0, ⟨rfl, rfl, _⟩ | ⟨rfl, rfl, _⟩ | ⟨rfl, rfl, hbad, ho⟩⟩
  · rfl
  · rfl
  · rfl
  rw [if_neg (by decide), List.map_id]
  have hq : y.length = 18 * (y.length / 18) := by omega
  have hlen := ptsY_len y h0
  have hgood : (ptsY y).any badW = false := by
    rw [List.any_eq_false]
    intro p hp hbp
    have h3 := List.any_eq_false.1 hbad p hp
    rw [badR_iff] at h3
    have h4 := cnt_pts y _ hq hb p hp
    have := (badW_iff p).2 ⟨by omega, by omega, h4.1, h4.2⟩
    rw [this] at hbp; cases hbp
  obtain ⟨r, h5, h6⟩ := wpts_of (ptsY y) (by omega)
  rw [h5]
  simp only [Option.bind_some]
  rcases h6 with ⟨_, h6⟩ | ⟨_, _, h6⟩ | ⟨rfl, _, _⟩
  · rw [hgood] at h6; cases h6
  · exact absurd ho h6
  · rw [if_pos (by rfl), enc_pts y _ hq hb]
    simp only
    rw [bytes_same _ (by omega)]
    rfl

theorem table_L2 (l : List blocks_Point) (hl : l.length ≤ 1000) (hb : ∀ p, p ∈ l → -1 ≤ p.Sample) (ho : ordP l) (i : Nat) (hi : i < l.length) : iter (jetsamlaw12_BlocksTable_L2 l (i : Int)) 0 = some (.inl ((i + 1 : Nat) : Int)) := by
  obtain ⟨p, e⟩ : ∃ p, l[i]? = some p := ⟨_, List.getElem?_eq_getElem hi⟩
  refine iter_eq (fun a : Int => ∃ j : Nat, a = j ∧ j ≤ i) (fun a => (i - a).toNat) _ (fun a ha => ?_) ⟨0, rfl, by omega⟩ (lt_ROUNDS (by omega))
  obtain ⟨j, rfl, hj⟩ := ha
  simp only [jetsamlaw12_BlocksTable_L2]
  by_cases h : j < i
  · left
    obtain ⟨q, f⟩ : ∃ q, l[j]? = some q := ⟨_, List.getElem?_eq_getElem (by omega)⟩
    rw [if_pos (by simpa using h), idx_ok e, idx_ok f, W_succ _ (by omega)]
    simp only [Option.bind_some]
    have go : ∃ a' : Int, (some (.inl ((j + 1 : Nat) : Int)) : Option (Int ⊕ (Int ⊕ Bool))) = some (.inl a') ∧ (∃ k : Nat, a' = k ∧ k ≤ i) ∧ (i - a').toNat < (i - (j : Int)).toNat := ⟨_, rfl, ⟨j + 1, rfl, by omega⟩, by omega⟩
    by_cases h0 : 0 ≤ p.Sample
    · have hlt := ord_lt ho hb i p e h0 j q h f
      rw [if_pos (by simpa using h0), if_neg (by simp; omega)]
      exact go
    · rw [if_neg (by simpa using h0)]
      exact go
  · right
    rw [if_neg (by simpa using h)]
    simp only [jetsamlaw12_BlocksTable_K2]
    rw [W_succ _ (by omega)]
    rfl

theorem law_BlocksTable (l : List blocks_Point) (y : List Int) (hi : ∀ p, p ∈ l → p.Sample ≤ 9223372036854775807 ∧ p.Offset ≤ 9223372036854775807) (hb : ∀ x, x ∈ y → isB x) : jetsamlaw12_BlocksTable l y = some true := by
  unfold jetsamlaw12_BlocksTable
  simp only [awake12, Option.bind_some]
  by_cases hl : l.length ≤ 40
  case neg => rw [if_pos (by simp; omega)]
  by_cases hy : y.length ≤ 500
  case neg => rw [if_pos (by simp; omega)]
  rw [if_neg (by simp; omega), table_K1 y hy hb]
  obtain ⟨r2, h1, h2⟩ := wpts_of l (by omega)
  rw [h1]
  simp only [Option.bind_some]
  rcases h2 with ⟨rfl, h2⟩ | ⟨rfl, h2, _⟩ | ⟨rfl, h2, ho⟩
  · rfl
  · rfl
  have hlen := encPs_len l
  have hpe := pts_enc l h2 hi
  have hbytes : ∀ x, x ∈ encPs l → isB x := fun x hx => by
    rw [encPs, List.mem_flatten] at hx
    obtain ⟨c, hc, hx⟩ := hx
    obtain ⟨p, _, rfl⟩ := List.mem_map.1 hc
    simp only [encP, b8, b2, List.mem_append, List.mem_cons, List.not_mem_nil, or_false] at hx
    rcases hx with (rfl | rfl | rfl | rfl | rfl | rfl | rfl | rfl) | (rfl | rfl | rfl | rfl | rfl | rfl | rfl | rfl) | (rfl | rfl) <;> exact byt_isB _ _
  have hgs : ∀ p, p ∈ l → -1 ≤ p.Sample := fun p hp => ((badW_iff p).1 (any_iff h2 hp)).1
  have hnr : l.any badR = false := by
    rw [List.any_eq_false]
    intro p hp hbp
    have := (badW_iff p).1 (any_iff h2 hp)
    rw [badR_iff] at hbp; omega
  rw [if_pos (by rfl)]
  obtain ⟨⟨ps, er⟩, h3, h4⟩ := pts_of (encPs l) (by omega) hbytes
  rw [h3]
  have hr : ps = l ∧ er = 0 := by
    rcases h4 with ⟨_, _, h4⟩ | ⟨_, ⟨_, _, h4⟩ | ⟨_, _, _, h4⟩ | ⟨h4, h5, _⟩⟩
    · exact absurd (by omega) h4
    · rw [hpe, hnr] at h4; cases h4
    · rw [hpe] at h4; exact absurd ho h4
    · exact ⟨by simpa [hpe] using h4, h5⟩
  obtain ⟨rfl, rfl⟩ := hr
  simp only [Option.bind_some]
  rw [if_neg (by decide), points_eq ps (by omega)]
  simp only [Option.bind_some]
  rw [same3_eq _ (by rw [List.length_map]; omega)]
  simp only [Option.bind_some]
  rw [if_neg (by decide)]
  refine iter_eq (fun a : Int => ∃ k : Nat, a = k ∧ k ≤ ps.length) (fun a => (ps.length - a).toNat) _ (fun a ha => ?_) ⟨0, rfl, by omega⟩ (lt_ROUNDS (by omega))
  obtain ⟨k, rfl, hk⟩ := ha
  simp only [jetsamlaw12_BlocksTable_L1]
  by_cases h : k < ps.length
  · left
    rw [if_pos (by simpa using h), table_L2 ps (by omega) hgs ho k h]
    exact ⟨_, rfl, ⟨k + 1, rfl, by omega⟩, by omega⟩
  · right
    rw [if_neg (by simpa using h), table_K1 y hy hb]
    rfl
end Go.Vg

/- What a padding, and an application's block, holds. -/
namespace Go.Vg
open Go

theorem others_K1 (b : blocks_Block) (hl : b.Data.length ≤ 500) : jetsamlaw12_BlocksOthers_K1 b () = some true := by
  unfold jetsamlaw12_BlocksOthers_K1 blocks_Name
  by_cases h1 : b.m_Type = 2
  case neg =>
    rw [if_pos (by simpa using h1)]
    simp only [Option.bind_some, awake12]
    rw [if_pos (by simpa using h1)]
    rfl
  have e1 : ¬((b.m_Type != 2) = true) := by simp [h1]
  rw [if_neg e1]
  by_cases h2 : b.Data.length < 4
  · have e2 : decide ((b.Data.length : Int) < 4) = true := by simp; omega
    rw [if_pos e2]
    simp only [Option.bind_some, awake12]
    rw [if_neg e1, if_pos e2]
    rfl
  · have e2 : ¬(decide ((b.Data.length : Int) < 4) = true) := by simp; omega
    have s1 : sub b.Data 0 4 = some (b.Data.take 4) := sub_nat (i := 0) (j := 4) (a := 0) (b := 4) rfl rfl (by omega) (by omega)
    have s2 : sub b.Data 4 (b.Data.length : Int) = some (b.Data.drop 4) := by
      rw [sub_nat (i := 4) (j := (b.Data.length : Int)) (a := 4) (b := b.Data.length) rfl rfl (by omega) (by omega), List.take_of_length_le (by rw [List.length_drop]; omega)]
    have hdl : (b.Data.drop 4).length ≤ 1000000 := by rw [List.length_drop]; omega
    rw [if_neg e2, s1, s2]
    simp only [Option.bind_some, clone_ok hdl, awake12]
    rw [if_neg e1, if_neg e2, if_pos (by simp), bytes_same _ hdl]
    rfl

theorem law_BlocksOthers (n : Int) (b : blocks_Block) : jetsamlaw12_BlocksOthers n b = some true := by
  unfold jetsamlaw12_BlocksOthers
  simp only [awake12, Option.bind_some]
  by_cases hl : b.Data.length ≤ 500
  case neg => rw [if_pos (by simp; omega)]
  have hK := others_K1 b hl
  by_cases h1 : n < 0 ∨ 16777215 < n
  · have e1 : (if decide (n < 0) = true then true else decide (n > 16777215)) = true := by rcases h1 with h | h <;> simp [h]
    have hz : blocks_Zeros n = some (⟨0, []⟩, 10) := by unfold blocks_Zeros; rw [if_pos e1]
    rw [if_neg (by simp; omega), hz]
    simp only [Option.bind_some]
    rw [if_pos e1, hK]
    rfl
  · have e1 : ¬(if decide (n < 0) = true then true else decide (n > 16777215)) = true := by simp; omega
    by_cases h2 : 2000 < n
    · rw [if_pos (by simp; omega)]
    obtain ⟨k, rfl⟩ := Int.eq_ofNat_of_zero_le (show 0 ≤ n by omega)
    have hz : blocks_Zeros (k : Int) = some (⟨1, List.replicate k 0⟩, 0) := by
      unfold blocks_Zeros
      rw [if_neg e1, mks_ok (by omega) (by unfold LIM; omega)]
      rfl
    rw [if_neg (by simp; omega), hz]
    simp only [Option.bind_some]
    rw [if_neg e1, if_neg (by simp)]
    refine iter_eq (fun i : Int => ∃ j : Nat, i = j ∧ j ≤ k) (fun i => (k - i).toNat) _ (fun i hi => ?_) ⟨0, rfl, by omega⟩ (lt_ROUNDS (by omega))
    obtain ⟨j, rfl, hj⟩ := hi
    simp only [jetsamlaw12_BlocksOthers_L1]
    by_cases h : j < k
    · left
      rw [if_pos (by simpa using h), idx_ok (x := 0) (by rw [List.getElem?_replicate, if_pos h])]
      simp only [Option.bind_some]
      rw [if_neg (by simp), W_succ _ (by omega)]
      exact ⟨_, rfl, ⟨j + 1, rfl, by omega⟩, by omega⟩
    · right
      rw [if_neg (by simpa using h), hK]
      rfl
end Go.Vg
