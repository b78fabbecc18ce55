/- The plain laws: subframes -/
import Derived.Test.YtpjbfealfmjddaaGreatDoorM2
import Derived.ProofKit
set_option maxRecDepth 4000
set_option linter.all false
set_option linter.unusedVariables false
set_option linter.unusedSimpArgs false
namespace Go.Vg

theorem fixed_some {n : Nat} (h : n ≤ 4) : ∃ q, predict_Fixed (n : Int) = some (q, 0) ∧ q.Coefs.length = n := by
  rcases (show n = 0 ∨ n = 1 ∨ n = 2 ∨ n = 3 ∨ n = 4 by omega) with rfl | rfl | rfl | rfl | rfl
  · exact ⟨⟨4, 0, []⟩, rfl, rfl⟩
  · exact ⟨⟨4, 0, [1]⟩, rfl, rfl⟩
  · exact ⟨⟨4, 0, [2, -1]⟩, rfl, rfl⟩
  · exact ⟨⟨4, 0, [3, -3, 1]⟩, rfl, rfl⟩
  · exact ⟨⟨4, 0, [4, -6, 4, -1]⟩, rfl, rfl⟩

/-- What subframe.shape tells where its code is 0. -/
structure ShapeOk (p : subframe_Plan) (depth : Int) : Prop where
  k1 : 0 ≤ p.Kind
  k2 : p.Kind ≤ 3
  w1 : 0 ≤ p.Wasted
  w2 : p.Wasted < depth
  o1 : 0 ≤ p.Order
  o2 : p.Order ≤ 32
  ofix : p.Kind = 2 → p.Order ≤ 4
  oplain : p.Kind < 2 → p.Order = 0
  lin : p.Kind < 3 → p.Linear.Precision = 0 ∧ p.Linear.Shift = 0 ∧ p.Linear.Coefs = []
  rice : p.Kind < 2 → p.Rice.Method = 0 ∧ p.Rice.Order = 0 ∧ p.Rice.Params = [] ∧ p.Rice.Bits = []
  coefs : p.Kind = 3 → (p.Linear.Coefs.length : Int) = p.Order
  olin : p.Kind = 3 → 1 ≤ p.Order
/-- What is so of a coded channel: its prediction, what is told of it, and how that is coded. -/
structure CodedOk (p : subframe_Plan) (l' d : List Int) (q : predict_Linear) (z : Int) : Prop where
  how : subframe_how p = some q
  len : (q.Coefs.length : Int) = p.Order
  lin : LinOk q
  may : MayP l'
  le : q.Coefs.length ≤ l'.length
  dlen : d.length = l'.length - q.Coefs.length
  told : ∀ i x, i + q.Coefs.length < l'.length → l'[q.Coefs.length + i]? = some x → ∃ t, predict_Linear_told q (l'.take (q.Coefs.length + i)) = some t ∧ d[i]? = some (W (x - t))
  size : rice_Size p.Rice p.Order d = some (z, 0)
/-- What subframe.check tells where its code is 0. -/
structure SubOk (p : subframe_Plan) (depth : Int) (l l' d : List Int) : Prop where
  d1 : 4 ≤ depth
  d2 : depth ≤ 33
  n1 : 1 ≤ l.length
  n2 : l.length ≤ 65535
  shape : ShapeOk p depth
  less : l' = l.map (· / 2 ^ p.Wasted.toNat)
  back : ∀ x, x ∈ l → x = x / 2 ^ p.Wasted.toNat * 2 ^ p.Wasted.toNat
  fits : FitsP depth.toNat l
  same : p.Kind = 0 → ∀ x, x ∈ l' → l'[0]? = some x
  coded : 2 ≤ p.Kind → ∃ q z, CodedOk p l' d q z
end Go.Vg

namespace Go.Vg

/-- How many samples are written as they are. -/
def plainN (p : subframe_Plan) (n : Nat) : Nat := if p.Kind = 0 then 1 else if p.Kind = 1 then n else p.Order.toNat
def kindN (p : subframe_Plan) : Nat := if p.Kind = 0 then 0 else if p.Kind = 1 then 1 else if p.Kind = 2 then 8 + p.Order.toNat else 31 + p.Order.toNat
def wasteBits (w : Nat) : List Bool := if w = 0 then bitsOf 1 0 else bitsOf 1 1 ++ (List.replicate (w - 1) false ++ [true])
def linBits (q : predict_Linear) : List Bool := bitsOf 4 (q.Precision.toNat - 1) ++ (escBits 5 q.Shift ++ q.Coefs.flatMap (escBits q.Precision.toNat))
def codeB (p : subframe_Plan) (d : List Int) : List Bool := if p.Kind < 2 then [] else if p.Kind = 2 then planBits p.Rice d p.Order.toNat else linBits p.Linear ++ planBits p.Rice d p.Order.toNat
def subBits (p : subframe_Plan) (depth : Int) (l' d : List Int) : List Bool :=
  bitsOf 7 (kindN p) ++ (wasteBits p.Wasted.toNat ++ ((l'.take (plainN p l'.length)).flatMap (escBits (depth - p.Wasted).toNat) ++ codeB p d))

section
variable {p : subframe_Plan} {depth : Int} {l l' d : List Int}
theorem SubOk.deep (h : SubOk p depth l l' d) : 1 ≤ (depth - p.Wasted).toNat ∧ (depth - p.Wasted).toNat ≤ 33 ∧ W (depth - p.Wasted) = ((depth - p.Wasted).toNat : Int) := by
  have := h.d1; have := h.d2; have := h.shape.w1; have := h.shape.w2
  refine ⟨by omega, by omega, ?_⟩
  rw [W_id (by omega) (by omega)]; omega
theorem SubOk.len (h : SubOk p depth l l' d) : l'.length = l.length := by rw [h.less, List.length_map]
theorem SubOk.fit (h : SubOk p depth l l' d) : ∀ x, x ∈ l' → EscOk (depth - p.Wasted).toNat x := by
  intro x hx
  have hd := h.deep
  have := h.d1; have := h.d2; have := h.shape.w1; have := h.shape.w2
  rw [h.less] at hx
  obtain ⟨y, hy, rfl⟩ := List.mem_map.1 hx
  have hb := h.back y hy
  have hf := h.fits y hy
  have e : (2 : Int) ^ (depth.toNat - 1) = 2 ^ ((depth - p.Wasted).toNat - 1) * 2 ^ p.Wasted.toNat := by
    rw [← Int.pow_add]; congr 1; omega
  rw [e] at hf
  have hp := pow_posI p.Wasted.toNat
  refine .inr ⟨hd.1, by omega, ?_⟩
  generalize (2 : Int) ^ ((depth - p.Wasted).toNat - 1) = A at *
  generalize (2 : Int) ^ p.Wasted.toNat = B at *
  refine ⟨?_, ?_⟩
  · refine Int.le_of_mul_le_mul_right ?_ hp
    rw [← hb, Int.neg_mul]; exact hf.1
  · refine Int.lt_of_mul_lt_mul_right (a := B) ?_ (Int.le_of_lt hp)
    rw [← hb]; exact hf.2
theorem SubOk.plain (h : SubOk p depth l l' d) : plainN p l'.length ≤ l'.length ∧ idx [(1 : Int), (l'.length : Int), p.Order, p.Order] p.Kind = some (plainN p l'.length : Int) := by
  have hs := h.shape
  have := hs.k1; have := hs.k2; have := hs.o1; have hl := h.len; have := h.n1
  unfold plainN
  rcases (show p.Kind = 0 ∨ p.Kind = 1 ∨ p.Kind = 2 ∨ p.Kind = 3 by omega) with hk | hk | hk | hk
  · rw [if_pos hk, hk]; exact ⟨by omega, rfl⟩
  · rw [if_neg (by omega), if_pos hk, hk]; exact ⟨Nat.le_refl _, rfl⟩
  · rw [if_neg (by omega), if_neg (by omega), hk]
    obtain ⟨q, z, hc⟩ := h.coded (by omega)
    have := hc.len; have := hc.le
    exact ⟨by omega, by show some p.Order = _; congr 1; omega⟩
  · rw [if_neg (by omega), if_neg (by omega), hk]
    obtain ⟨q, z, hc⟩ := h.coded (by omega)
    have := hc.len; have := hc.le
    exact ⟨by omega, by show some p.Order = _; congr 1; omega⟩
theorem SubOk.kind (h : SubOk p depth l l' d) : kindN p < 2 ^ 7 ∧ idx [(0 : Int), (1 : Int), (W (8 + p.Order)), (W (31 + p.Order))] p.Kind = some (kindN p : Int) := by
  have hs := h.shape
  have := hs.k1; have := hs.k2; have := hs.o1; have := hs.o2
  unfold kindN
  rcases (show p.Kind = 0 ∨ p.Kind = 1 ∨ p.Kind = 2 ∨ p.Kind = 3 by omega) with hk | hk | hk | hk
  · rw [if_pos hk, hk]; exact ⟨by omega, rfl⟩
  · rw [if_neg (by omega), if_pos hk, hk]; exact ⟨by omega, rfl⟩
  · rw [if_neg (by omega), if_neg (by omega), if_pos hk, hk]
    exact ⟨by omega, by show some (W (8 + p.Order)) = _; rw [W_id (by omega) (by omega)]; congr 1; omega⟩
  · rw [if_neg (by omega), if_neg (by omega), if_neg (by omega), hk]
    exact ⟨by omega, by show some (W (31 + p.Order)) = _; rw [W_id (by omega) (by omega)]; congr 1; omega⟩
theorem esc_flat_len (n : Nat) (l : List Int) : (l.flatMap (escBits n)).length = l.length * n := by
  induction l with
  | nil => simp
  | cons x l ih => rw [List.flatMap_cons, List.length_append, ih, escBits_length, List.length_cons, Nat.succ_mul]; omega
theorem waste_len (w : Nat) : (wasteBits w).length ≤ 1 + w := by
  unfold wasteBits
  split
  · simp [bitsOf_length]
  · simp [bitsOf_length]; omega
end
end Go.Vg

namespace Go.Vg

section
variable {b : List Int} {pos : Nat} {t : List Bool}
theorem shl_int {x : Int} {s : Nat} (hs : s ≤ 64) (h1 : -9223372036854775808 ≤ x * 2 ^ s) (h2 : x * 2 ^ s ≤ 9223372036854775807) : shD .shl .i64 x (s : Int) = x * 2 ^ s := by
  simp only [shD, IntKind.bits, Int.toNat_natCast]
  rw [Nat.min_eq_left hs]
  exact i64_id h1 h2
theorem rep_mul {n : Nat} (hn : n ≤ 65535) : math_bits_Mul (IntKind.u64.wrap ((1 : Nat) : Int)) (IntKind.u64.wrap (n : Int)) = some (0, (n : Int)) := by
  have e1 : IntKind.u64.wrap (n : Int) = (n : Int) := wrap_id (by rw [has_iff]; simp only [lo, hi]; omega)
  have e0 : IntKind.u64.wrap ((1 : Nat) : Int) = 1 := by decide
  have a1 : shD .shr .u64 1 32 = 0 := by decide
  have a2 : shD .shr .u64 (n : Int) 32 = 0 := by
    show (n : Int).fdiv (2 ^ 32) = 0
    rw [Int.fdiv_eq_ediv_of_nonneg _ (by decide)]
    omega
  have a3 : arD .and .u64 1 4294967295 = 1 := by decide
  have a4 : arD .and .u64 (n : Int) 4294967295 = (n : Int) := by
    have h1 : (BitVec.ofInt IntKind.u64.bits (n : Int) &&& BitVec.ofInt IntKind.u64.bits 4294967295).toNat = n := by
      rw [BitVec.ofInt_natCast, show (4294967295 : Int) = ((4294967295 : Nat) : Int) from rfl, BitVec.ofInt_natCast, BitVec.toNat_and, BitVec.toNat_ofNat, BitVec.toNat_ofNat]
      simp only [IntKind.bits]
      rw [Nat.mod_eq_of_lt (by omega), Nat.mod_eq_of_lt (by decide), show 4294967295 = 2 ^ 32 - 1 from rfl, Nat.and_two_pow_sub_one_eq_mod, Nat.mod_eq_of_lt (by omega)]
    show IntKind.u64.wrap _ = _
    rw [h1, e1]
  have z0 : IntKind.u64.wrap 0 = 0 := by decide
  have s0 : shD .shr .u64 0 32 = 0 := by decide
  have n0 : arD .and .u64 0 4294967295 = 0 := by decide
  unfold math_bits_Mul math_bits_Mul64
  rw [e0, e1]
  simp only [a1, a2, a3, a4, Int.one_mul, Int.zero_mul, Int.mul_zero, Int.add_zero, Int.zero_add, z0, s0, n0, e1, Option.bind_some]
theorem repeat_of {x : Int} {n : Nat} (hn : n ≤ 65535) (h1 : 1 ≤ n) : slices_Repeat_sint_int [x] (n : Int) = some (List.replicate n x) := by
  unfold slices_Repeat_sint_int
  rw [if_neg (by simp)]
  have e := rep_mul hn
  have hLIM : (65535 : Nat) ≤ LIM := by decide
  rw [show (([x] : List Int).length : Int) = ((1 : Nat) : Int) from rfl, e]
  simp only [Option.bind_some]
  rw [if_neg (by rw [ite_or, Bool.or_eq_true, decide_eq_true_eq, decide_eq_true_eq]; omega), W_id (by omega) (by omega), mks_ok (by omega) (Nat.le_trans hn hLIM)]
  simp only [Option.bind_some]
  unfold cpq
  rw [if_pos ⟨by omega, by simp⟩]
  simp only [Option.bind_some, List.length_replicate, List.length_singleton, Int.toNat_natCast, Int.toNat_zero]
  rw [Nat.min_eq_left h1, if_pos (by rfl)]
  have st : ([] : List Int) ++ (([x] : List Int).take 1 ++ (List.replicate n (0 : Int)).drop (0 + 1)) = List.replicate 1 x ++ List.replicate (n - 1) 0 := by simp
  rw [List.take_zero, st]
  refine iter_eq (I := fun a : Int × List Int => ∃ k : Nat, 1 ≤ k ∧ k ≤ n ∧ a = ((k : Int), List.replicate k x ++ List.replicate (n - k) 0)) (m := fun a => n - a.1.toNat) _ (fun a ha => ?_) ⟨1, by omega, h1, rfl⟩ (Nat.lt_of_le_of_lt (show _ ≤ 65535 by omega) (by decide))
  obtain ⟨k, hk1, hk2, rfl⟩ := ha
  have hlen : (List.replicate k x ++ List.replicate (n - k) (0 : Int)).length = n := by simp; omega
  unfold slices_Repeat_sint_int_L1
  dsimp only
  rcases Nat.lt_or_ge k n with hlt | hge
  · left
    rw [if_pos (by rw [hlen]; simpa using hlt), hlen, sub_ok (by omega) (by omega)]
    simp only [Option.bind_some]
    have hs : sub (List.replicate k x ++ List.replicate (n - k) (0 : Int)) 0 (k : Int) = some _ := sub_ok (i := 0) (by omega) (by omega)
    rw [hs]
    simp only [Option.bind_some]
    unfold cpq
    rw [if_pos ⟨by omega, by omega⟩]
    simp only [Option.bind_some]
    have t1 : ((List.replicate k x ++ List.replicate (n - k) (0 : Int)).drop (0 : Int).toNat).take ((k : Int) - 0).toNat = List.replicate k x := by
      simp
    have t2 : ((n : Int) - (k : Int)).toNat = n - k := by omega
    rw [t1, t2]
    simp only [List.length_replicate, Int.toNat_natCast]
    rw [if_pos (by rw [decide_eq_true_eq]; omega)]
    refine ⟨_, rfl, ⟨k + min k (n - k), by omega, by omega, ?_⟩, ?_⟩
    · rw [W_id (by omega) (by omega)]
      refine Prod.ext (by simp) ?_
      show _ = _
      rw [List.take_append_of_le_length (by simp), List.take_of_length_le (by simp), List.take_replicate, ← List.drop_drop, List.drop_left' (by simp), List.drop_replicate, ← List.append_assoc, List.replicate_append_replicate, Nat.min_eq_left (Nat.min_le_left _ _), Nat.sub_sub]
    · rw [W_id (by omega) (by omega)]
      simp only
      omega
  · right
    obtain rfl : k = n := by omega
    rw [if_neg (by rw [hlen]; simp)]
    unfold slices_Repeat_sint_int_K1
    rw [Nat.sub_self]
    simp
end
end Go.Vg

namespace Go.Vg

theorem ints_same (l : List Int) (hl : l.length < 2 ^ 40) : jetsamlaw01_Ints l l = some true := by
  unfold jetsamlaw01_Ints
  rw [if_neg (by simp)]
  refine Exists.elim (iter_for (step := jetsamlaw01_Ints_L1 l l) l.length (fun i a => a = (i : Int)) (fun r => r = true) (by omega) (fun i a hi ha => ?_) (fun a ha => ?_) (a0 := 0) rfl) (fun r hr => by rw [hr.1, hr.2])
  · subst ha
    unfold jetsamlaw01_Ints_L1
    rw [if_pos (by simpa using hi), idx_nat hi]
    simp only [Option.bind_some]
    rw [if_neg (by simp)]
    exact .inl ⟨_, rfl, W_succ (by omega)⟩
  · subst ha
    unfold jetsamlaw01_Ints_L1
    rw [if_neg (by simp)]
    exact ⟨_, rfl, rfl⟩

theorem awake_ok : jetsamlaw07_awake = some true := by kernel_rfl
end Go.Vg

namespace Go.Vg

/-- May a residual be in a part? -/
def OneOk (par n v : Int) : Prop := -2147483648 < v ∧ v < 2147483648 ∧ (par = -1 → ∃ w, rice_width v = some w ∧ w ≤ n) ∧ (0 ≤ par → foldN v / 2 ^ par.toNat ≤ 65536)
/-- How many bits it has there. -/
def oneLen (par n v : Int) : Int := if par = -1 then n else ((foldN v / 2 ^ par.toNat + 1 + par.toNat : Nat) : Int)
theorem one_spec {v par n : Int} (hp : par = -1 ∨ 0 ≤ par ∧ par ≤ 31) : ∃ c b, rice_one v par n = some (c, b) ∧ (b = true ↔ OneOk par n v) ∧ (b = true → c = oneLen par n v) := by
  unfold rice_one
  by_cases hv : -2147483648 < v ∧ v < 2147483648
  · rw [fold_spec (by omega) (by omega)]
    have e1 : decide (-2147483648 < v) = true := decide_eq_true hv.1
    have e2 : decide (v < 2147483648) = true := decide_eq_true hv.2
    simp only [Option.bind_some, e1, e2]
    rw [if_neg (by decide)]
    rcases hp with rfl | ⟨h0, h31⟩
    · rw [if_pos (by rfl)]
      obtain ⟨w, hw, _⟩ := width_spec hv.1 hv.2
      rw [hw]
      refine ⟨_, _, rfl, ?_, fun _ => rfl⟩
      rw [decide_eq_true_eq]
      exact ⟨fun h => ⟨hv.1, hv.2, fun _ => ⟨w, hw, h⟩, fun h => by omega⟩, fun h => by
        obtain ⟨w', h1, h2⟩ := h.2.2.1 rfl
        rw [hw] at h1; cases h1; exact h2⟩
    · obtain ⟨k, rfl⟩ := Int.eq_ofNat_of_zero_le h0
      rw [if_neg (by simp), need_ok (by simp), need_ok (by simp), shr_nat (by omega)]
      have hlt : foldN v < 4294967296 := by unfold foldN; split <;> omega
      have hle : foldN v / 2 ^ k ≤ foldN v := Nat.div_le_self _ _
      refine ⟨_, _, rfl, ?_, fun _ => ?_⟩
      · rw [decide_eq_true_eq]
        unfold OneOk
        simp only [Int.toNat_natCast]
        exact ⟨fun h => ⟨hv.1, hv.2, fun h => by omega, fun _ => by omega⟩, fun h => by have := h.2.2.2 (by omega); omega⟩
      · unfold oneLen
        rw [if_neg (by omega), Int.toNat_natCast]
        generalize foldN v / 2 ^ k = q at *
        rw [W_id (x := (q : Int) + 1) (by omega) (by omega), W_id (by omega) (by omega)]
        omega
  · obtain ⟨f, hf⟩ := fold_flag v
    rw [hf]
    have e : (decide (-2147483648 < v) && decide (v < 2147483648)) = false := by
      rw [Bool.and_eq_false_iff]
      by_cases h1 : -2147483648 < v
      · exact .inr (decide_eq_false fun h2 => hv ⟨h1, h2⟩)
      · exact .inl (decide_eq_false h1)
    simp only [Option.bind_some, e]
    rw [if_pos (by decide)]
    exact ⟨_, _, rfl, ⟨fun h => (nomatch h), fun h => absurd ⟨h.1, h.2.1⟩ hv⟩, fun h => (nomatch h)⟩
def sumL (par n : Int) (xs : List Int) : Int := (xs.map (oneLen par n)).sum
theorem oneLen_le {par n v : Int} (hp : par = -1 ∨ 0 ≤ par ∧ par ≤ 31) (hn : 0 ≤ n) (hn2 : n ≤ 31) (h : OneOk par n v) : 0 ≤ oneLen par n v ∧ oneLen par n v ≤ 65568 := by
  unfold oneLen
  split
  · omega
  · have := h.2.2.2 (by omega)
    generalize foldN v / 2 ^ par.toNat = q at *
    omega
theorem sumL_le {par n : Int} {xs : List Int} (hp : par = -1 ∨ 0 ≤ par ∧ par ≤ 31) (hn : 0 ≤ n) (hn2 : n ≤ 31) (h : ∀ v, v ∈ xs → OneOk par n v) : 0 ≤ sumL par n xs ∧ sumL par n xs ≤ 65568 * xs.length := by
  induction xs with
  | nil => simp [sumL]
  | cons x l ih =>
    have h1 := oneLen_le hp hn hn2 (h x (List.mem_cons_self ..))
    have h2 := ih fun v hv => h v (List.mem_cons_of_mem _ hv)
    unfold sumL at *
    simp only [List.map_cons, List.sum_cons, List.length_cons]
    omega
theorem some_spec {xs : List Int} {par n : Int} (hl : xs.length < 2 ^ 40) (hp : par = -1 ∨ 0 ≤ par ∧ par ≤ 31) (hn : 0 ≤ n) (hn2 : n ≤ 31) : ∃ c b, rice_some xs par n = some (c, b) ∧ (b = true ↔ ∀ v, v ∈ xs → OneOk par n v) ∧ (b = true → c = sumL par n xs) := by
  unfold rice_some
  refine Exists.elim (iter_for (step := rice_some_L1 xs par n) xs.length (fun i a => a = (sumL par n (xs.take i), (i : Int)) ∧ ∀ v, v ∈ xs.take i → OneOk par n v) (fun r => (r.2 = true ↔ ∀ v, v ∈ xs → OneOk par n v) ∧ (r.2 = true → r.1 = sumL par n xs)) (by omega) (fun i a hi ha => ?_) (fun a ha => ?_) (a0 := (0, 0)) ⟨rfl, fun v hv => by simp at hv⟩) (fun r hr => ⟨r.1, r.2, hr.1, hr.2.1, hr.2.2⟩)
  · obtain ⟨rfl, hall⟩ := ha
    unfold rice_some_L1
    rw [if_pos (by simpa using hi), idx_nat hi]
    simp only [Option.bind_some]
    obtain ⟨c, b, h1, h2, h3⟩ := one_spec (v := xs[i]) (n := n) hp
    rw [h1]
    simp only [Option.bind_some]
    cases b with
    | false =>
      rw [if_pos (by decide)]
      exact .inr ⟨_, rfl, ⟨fun h => (nomatch h), fun h => by have := h2.2 (h _ (List.getElem_mem hi)); cases this⟩, fun h => (nomatch h)⟩
    | true =>
      rw [if_neg (by decide)]
      have hb := sumL_le hp hn hn2 hall
      have hok := h2.1 rfl
      have hol := oneLen_le hp hn hn2 hok
      have hlen : (xs.take i).length ≤ xs.length := by simp; omega
      refine .inl ⟨_, rfl, ?_, fun v hv => ?_⟩
      · rw [W_succ (by omega), h3 rfl, W_id (by omega) (by omega)]
        rw [List.take_succ_eq_append_getElem hi]
        unfold sumL
        rw [List.map_append, List.sum_append]
        simp
      · rw [List.take_succ_eq_append_getElem hi] at hv
        rcases List.mem_append.1 hv with hv | hv
        · exact hall v hv
        · rw [List.mem_singleton] at hv; subst hv; exact hok
  · obtain ⟨rfl, hall⟩ := ha
    unfold rice_some_L1 rice_some_K1
    rw [if_neg (by simp)]
    rw [List.take_length] at *
    exact ⟨_, rfl, ⟨fun _ => hall, fun _ => rfl⟩, fun _ => rfl⟩

/-- How many bits a part has. -/
theorem partBits_sum {m : Nat} {par n : Int} {xs : List Int} (h : PartOk m par n xs) : ((partBits m par n xs).length : Int) = 4 + m + (if par = -1 then 5 else 0) + sumL par n xs := by
  have hf : ∀ (f : Int → List Bool) (g : Int → Int) (l : List Int), (∀ v, v ∈ l → ((f v).length : Int) = g v) → ((l.flatMap f).length : Int) = (l.map g).sum := by
    intro f g l
    induction l with
    | nil => intro _; rfl
    | cons x l ih =>
      intro h
      rw [List.flatMap_cons, List.length_append, List.map_cons, List.sum_cons, ← ih fun v hv => h v (List.mem_cons_of_mem _ hv), ← h x (List.mem_cons_self ..)]
      omega
  unfold partBits sumL
  rcases h with ⟨rfl, h0, h1, hv⟩ | ⟨h0, h1, rfl, hv⟩
  · rw [if_pos rfl, if_pos rfl]
    have := hf (escBits n.toNat) (oneLen (-1) n) xs (fun v _ => by unfold oneLen; rw [if_pos rfl, escBits_length]; omega)
    simp only [List.length_append, bitsOf_length]
    omega
  · rw [if_neg (by omega), if_neg (by omega)]
    have := hf (codeBits par.toNat) (oneLen par 0) xs (fun v _ => by unfold oneLen; rw [if_neg (by omega), codeBits_length])
    simp only [List.length_append, bitsOf_length]
    omega

theorem size_fold {m : Nat} {y0 : rice_Plan} {y2 : List Int} (hm : m ≤ 1) (hM : y0.Method = (m : Int)) (qs : List Part)
    (hq : ∀ q, q ∈ qs → idx y0.Params q.e.1 = some q.par ∧ idx y0.Bits q.e.1 = some q.n ∧ sub y2 q.e.2.a0 q.e.2.a1 = some q.xs ∧ q.xs.length < 2 ^ 20 ∧ PartOk m q.par q.n q.xs ∧ ∀ v, v ∈ q.xs → OneOk q.par q.n v) (a : Nat) (hL : a + (qs.flatMap (Part.bits m)).length < 2 ^ 50) :
    foldR (rice_Size_L1 y0 y2) rice_Size_K2 rice_Size_K3 (qs.map Part.e) (a : Int) = some (((a + (qs.flatMap (Part.bits m)).length : Nat) : Int), 0) := by
  induction qs generalizing a with
  | nil => simp [foldR, rice_Size_K2, rice_Size_K1]
  | cons q qs ih =>
    obtain ⟨h1, h2, h3, h4, h5, hone⟩ := hq q (List.mem_cons_self ..)
    have hE := escN_le hm
    have hsum := partBits_sum h5
    simp only [List.flatMap_cons, List.length_append] at hL ⊢
    have hqb : (q.bits m).length = (partBits m q.par q.n q.xs).length := rfl
    have hpn : (q.par = -1 ∨ 0 ≤ q.par ∧ q.par ≤ 31) ∧ 0 ≤ q.n ∧ q.n ≤ 31 := by
      rcases h5 with ⟨e, a1, a2, _⟩ | ⟨a1, a2, a3, _⟩
      · exact ⟨.inl e, a1, a2⟩
      · exact ⟨.inr ⟨a1, by omega⟩, by omega, by omega⟩
    obtain ⟨c, b, g1, g2, g3⟩ := some_spec (xs := q.xs) (by omega) hpn.1 hpn.2.1 hpn.2.2
    have hb := g2.2 hone
    have hle := sumL_le hpn.1 hpn.2.1 hpn.2.2 hone
    have hc := g3 hb
    have hx20 : (q.xs.length : Int) < 1048576 := by omega
    have hstep : rice_Size_L1 y0 y2 q.e (a : Int) = some (.inl ((a + (q.bits m).length : Nat) : Int)) := by
      unfold rice_Size_L1
      rw [h3]
      simp only [Option.bind_some]
      rw [h1, h2]
      simp only [Option.bind_some, g1, hb]
      rw [if_neg (by decide), hc, hM, W_id (x := sumL q.par q.n q.xs + 4) (by omega) (by omega), W_id (x := sumL q.par q.n q.xs + 4 + m) (by omega) (by omega), W_id (x := (a : Int) + (sumL q.par q.n q.xs + 4 + m)) (by omega) (by omega)]
      split
      · rename_i he
        rw [beq_iff_eq] at he
        rw [if_pos he] at hsum
        rw [W_id (by omega) (by omega)]
        refine congrArg (fun z => some (Sum.inl z)) ?_
        omega
      · rename_i he
        rw [beq_iff_eq] at he
        rw [if_neg he] at hsum
        refine congrArg (fun z => some (Sum.inl z)) ?_
        omega
    rw [List.map_cons, foldR, hstep]
    show foldR (rice_Size_L1 y0 y2) rice_Size_K2 rice_Size_K3 (qs.map Part.e) ((a + (q.bits m).length : Nat) : Int) = _
    rw [ih (fun q' hq' => hq q' (List.mem_cons_of_mem _ hq')) (a + (q.bits m).length) (by omega), Nat.add_assoc]
section
variable {p : rice_Plan} {skip : Nat} {d : List Int} {z : Int}
theorem size_unfold (hs : skip ≤ 32) (hd : d.length < 2 ^ 20) (hk : PlanOk p ((d.length + skip : Nat) : Int) (skip : Int)) (hc : rice_Check p ((d.length + skip : Nat) : Int) (skip : Int) = some 0) :
    rice_Size p (skip : Int) d = foldR (rice_Size_L1 p d) rice_Size_K2 rice_Size_K3 (partsN (d.length + skip) p.Order.toNat skip) 6 := by
  have hh := hk.head
  have ho1 := hh.o1; have ho2 := hh.o2; have hb2 := hh.b2
  have e0 : W ((d.length : Int) + (skip : Int)) = ((d.length + skip : Nat) : Int) := by rw [W_id (by omega) (by omega)]; omega
  unfold rice_Size
  rw [e0, hc]
  simp only [Option.bind_some]
  rw [if_neg (by decide)]
  simp only [lett, rice_parts, Option.bind_some]
  unfold partsF
  rw [if_pos ⟨by omega, by omega, by omega, by omega, by omega, by omega⟩]
  simp only [Option.bind_some, Int.toNat_natCast]
end
end Go.Vg

namespace Go.Vg

theorem wrap_i64' (n : Int) : IntKind.i64.wrap n = (n + 9223372036854775808) % 18446744073709551616 - 9223372036854775808 := by
  simp only [IntKind.wrap, IntKind.bits, IntKind.signed]
  simp
  omega
/-- Numbers of which the last bits are 0. -/
def Dv (k : Nat) (x : Int) : Prop := x % 2 ^ k = 0
theorem and_one (x : Int) : arD .and .i64 x 1 = x % 2 := by
  have := and_mask (n := 1) x (by omega)
  have e : (((2 ^ 1 - 1 : Nat)) : Int) = 1 := rfl
  rw [e] at this
  rw [this]
  unfold sgn
  have h := Int.emod_nonneg x (show (2 : Int) ≠ 0 by decide)
  have e2 : (2 : Int) ^ 1 = 2 := rfl
  rw [e2, Int.toNat_of_nonneg h]
end Go.Vg
