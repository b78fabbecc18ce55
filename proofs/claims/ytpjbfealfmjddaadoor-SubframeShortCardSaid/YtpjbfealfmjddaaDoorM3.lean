/- A channel written and read: the plain reckoning. -/
import Derived.Test.YtpjbfealfmjddaaDoorM2
import Derived.ProofKit
set_option maxRecDepth 4000
set_option linter.all false
set_option linter.unusedVariables false
set_option linter.unusedSimpArgs false
namespace Go.Vg

theorem fixed_some {n : Nat} (h : n ≤ 4) : ∃ q, predict_Fixed (n : Int) = some (q, 0) ∧ q.Coefs.length = n := by
  rcases (show n = 0 ∨ n = 1 ∨ n = 2 ∨ n = 3 ∨ n = 4 by omega) with rfl | rfl | rfl | rfl | rfl
  · exact ⟨⟨4, 0, []⟩, rfl, rfl⟩
  · exact ⟨⟨4, 0, [1]⟩, rfl, rfl⟩
  · exact ⟨⟨4, 0, [2, -1]⟩, rfl, rfl⟩
  · exact ⟨⟨4, 0, [3, -3, 1]⟩, rfl, rfl⟩
  · exact ⟨⟨4, 0, [4, -6, 4, -1]⟩, rfl, rfl⟩

/-- What subframe.shape tells where its code is 0. -/
structure ShapeOk (p : subframe_Plan) (depth : Int) : Prop where
  k1 : 0 ≤ p.Kind
  k2 : p.Kind ≤ 3
  w1 : 0 ≤ p.Wasted
  w2 : p.Wasted < depth
  o1 : 0 ≤ p.Order
  o2 : p.Order ≤ 32
  ofix : p.Kind = 2 → p.Order ≤ 4
  oplain : p.Kind < 2 → p.Order = 0
  lin : p.Kind < 3 → p.Linear.Precision = 0 ∧ p.Linear.Shift = 0 ∧ p.Linear.Coefs = []
  rice : p.Kind < 2 → p.Rice.Method = 0 ∧ p.Rice.Order = 0 ∧ p.Rice.Params = [] ∧ p.Rice.Bits = []
  coefs : p.Kind = 3 → (p.Linear.Coefs.length : Int) = p.Order
  olin : p.Kind = 3 → 1 ≤ p.Order
theorem len0 {l : List Int} : ((l.length : Int) == 0) = true ↔ l = [] := by
  rw [beq_iff_eq]
  constructor
  · intro h; exact List.eq_nil_of_length_eq_zero (by omega)
  · intro h; subst h; rfl
theorem shape_K1 (p : subframe_Plan) (depth lo hi : Int) : ∃ c, subframe_shape_K1 p depth (lo, hi) = some c ∧ (c = 0 → 0 ≤ p.Kind ∧ p.Kind ≤ 3 ∧ 0 ≤ p.Wasted ∧ p.Wasted < depth ∧ lo ≤ p.Order ∧ p.Order ≤ hi ∧
    (p.Kind < 3 → p.Linear.Precision = 0 ∧ p.Linear.Shift = 0 ∧ p.Linear.Coefs = []) ∧ (p.Kind < 2 → p.Rice.Method = 0 ∧ p.Rice.Order = 0 ∧ p.Rice.Params = [] ∧ p.Rice.Bits = []) ∧ (p.Kind = 3 → (p.Linear.Coefs.length : Int) = p.Order)) := by
  unfold subframe_shape_K1
  simp only [ite_or, ite_and]
  split
  · exact ⟨_, rfl, fun h => (nomatch h)⟩
  · rename_i h1
    split
    · exact ⟨_, rfl, fun h => (nomatch h)⟩
    · rename_i h2
      refine ⟨_, rfl, fun _ => ?_⟩
      simp only [Bool.or_eq_true, Bool.and_eq_true, decide_eq_true_eq, not_or, not_and, Bool.not_eq_true', Bool.not_eq_false, bne_iff_ne, ne_eq, Decidable.not_not] at h1 h2
      refine ⟨by omega, by omega, by omega, by omega, by omega, by omega, fun hk => ?_, fun hk => ?_, fun hk => h2.2 (by rw [hk]; rfl)⟩
      · have := h2.1.1 hk
        simp only [Bool.and_eq_true, beq_iff_eq] at this
        exact ⟨this.1.1, this.1.2, List.eq_nil_of_length_eq_zero (by omega)⟩
      · have := h2.1.2 hk
        simp only [Bool.and_eq_true, beq_iff_eq] at this
        exact ⟨this.1.1.1, this.1.1.2, List.eq_nil_of_length_eq_zero (by omega), List.eq_nil_of_length_eq_zero (by omega)⟩
theorem shape_spec (p : subframe_Plan) (depth : Int) : ∃ c, subframe_shape p depth = some c ∧ (c = 0 → ShapeOk p depth) := by
  unfold subframe_shape
  by_cases h2 : p.Kind = 2
  · rw [if_pos (by simpa using h2)]
    obtain ⟨c, h, h'⟩ := shape_K1 p depth 0 4
    refine ⟨c, h, fun hc => ?_⟩
    obtain ⟨a1, a2, a3, a4, a5, a6, a7, a8, a9⟩ := h' hc
    exact ⟨a1, a2, a3, a4, a5, by omega, fun _ => a6, fun _ => by omega, a7, a8, a9, fun _ => by omega⟩
  · rw [if_neg (by simpa using h2)]
    by_cases h3 : p.Kind = 3
    · rw [if_pos (by simpa using h3)]
      obtain ⟨c, h, h'⟩ := shape_K1 p depth 1 32
      refine ⟨c, h, fun hc => ?_⟩
      obtain ⟨a1, a2, a3, a4, a5, a6, a7, a8, a9⟩ := h' hc
      exact ⟨a1, a2, a3, a4, by omega, a6, fun _ => by omega, fun _ => by omega, a7, a8, a9, fun _ => a5⟩
    · rw [if_neg (by simpa using h3)]
      obtain ⟨c, h, h'⟩ := shape_K1 p depth 0 0
      refine ⟨c, h, fun hc => ?_⟩
      obtain ⟨a1, a2, a3, a4, a5, a6, a7, a8, a9⟩ := h' hc
      exact ⟨a1, a2, a3, a4, by omega, by omega, fun _ => by omega, fun _ => by omega, a7, a8, a9, fun _ => by omega⟩
theorem sizes_spec (n d : Int) : ∃ c, subframe_sizes n d = some c ∧ (c = 0 → 4 ≤ d ∧ d ≤ 33 ∧ 1 ≤ n ∧ n ≤ 65535) := by
  unfold subframe_sizes
  simp only [ite_or]
  split
  · exact ⟨_, rfl, fun h => (nomatch h)⟩
  · rename_i h
    simp only [Bool.or_eq_true, decide_eq_true_eq] at h
    exact ⟨_, rfl, fun _ => ⟨by omega, by omega, by omega, by omega⟩⟩

/-- What is so of a coded channel: its prediction, what is told of it, and how that is coded. -/
structure CodedOk (p : subframe_Plan) (l' d : List Int) (q : predict_Linear) (z : Int) : Prop where
  how : subframe_how p = some q
  len : (q.Coefs.length : Int) = p.Order
  lin : LinOk q
  may : MayP l'
  le : q.Coefs.length ≤ l'.length
  dlen : d.length = l'.length - q.Coefs.length
  told : ∀ i x, i + q.Coefs.length < l'.length → l'[q.Coefs.length + i]? = some x → ∃ t, predict_Linear_told q (l'.take (q.Coefs.length + i)) = some t ∧ d[i]? = some (W (x - t))
  size : rice_Size p.Rice p.Order d = some (z, 0)
/-- What subframe.check tells where its code is 0. -/
structure SubOk (p : subframe_Plan) (depth : Int) (l l' d : List Int) : Prop where
  d1 : 4 ≤ depth
  d2 : depth ≤ 33
  n1 : 1 ≤ l.length
  n2 : l.length ≤ 65535
  shape : ShapeOk p depth
  less : l' = l.map (· / 2 ^ p.Wasted.toNat)
  back : ∀ x, x ∈ l → x = x / 2 ^ p.Wasted.toNat * 2 ^ p.Wasted.toNat
  fits : FitsP depth.toNat l
  same : p.Kind = 0 → ∀ x, x ∈ l' → l'[0]? = some x
  coded : 2 ≤ p.Kind → ∃ q z, CodedOk p l' d q z
theorem how_some {p : subframe_Plan} {depth : Int} (h : ShapeOk p depth) (hk : 2 ≤ p.Kind) : ∃ q, subframe_how p = some q ∧ (q.Coefs.length : Int) = p.Order := by
  unfold subframe_how
  have := h.k2
  by_cases h2 : p.Kind = 2
  · rw [if_pos (by simpa using h2)]
    obtain ⟨n, hn⟩ := Int.eq_ofNat_of_zero_le h.o1
    have := h.ofix h2
    obtain ⟨q, hq, hl⟩ := fixed_some (n := n) (by omega)
    rw [hn, hq]
    exact ⟨q, rfl, by omega⟩
  · rw [if_neg (by simpa using h2)]
    exact ⟨_, rfl, h.coefs (by omega)⟩
theorem check_spec (p : subframe_Plan) (depth : Int) (l : List Int) (hl : l.length < 2 ^ 40) (hp : p.Rice.Params.length < 2 ^ 40) : ∃ l' d c, subframe_check p depth l = some (l', d, c) ∧ (c = 0 → SubOk p depth l l' d) := by
  unfold subframe_check
  obtain ⟨c1, a1, a1'⟩ := sizes_spec (l.length : Int) depth
  rw [a1]
  simp only [Option.bind_some]
  rcases (Decidable.em (c1 = 0)).symm with hc | hc
  · rw [if_pos (by simpa using hc)]
    exact ⟨_, _, _, rfl, fun h => absurd h hc⟩
  rw [if_neg (by simpa using hc)]
  obtain ⟨q1, q2, q3, q4⟩ := a1' hc
  obtain ⟨c2, a2, a2'⟩ := shape_spec p depth
  rw [a2]
  simp only [Option.bind_some]
  rcases (Decidable.em (c2 = 0)).symm with hc2 | hc2
  · rw [if_pos (by simpa using hc2)]
    exact ⟨_, _, _, rfl, fun h => absurd h hc2⟩
  rw [if_neg (by simpa using hc2)]
  have hs := a2' hc2
  obtain ⟨w, hw⟩ := Int.eq_ofNat_of_zero_le hs.w1
  have hw2 := hs.w2
  obtain ⟨l', b, a3, a3', a3''⟩ := less_spec (n := w) (l := l) (by omega) hl
  rw [← hw] at a3
  rw [a3]
  simp only [Option.bind_some]
  cases b with
  | false => exact ⟨_, _, _, if_pos (by decide), fun h => (nomatch h)⟩
  | true =>
  rw [if_neg (by decide)]
  obtain ⟨hless, hback⟩ := a3' rfl
  obtain ⟨n, hn⟩ := Int.eq_ofNat_of_zero_le (show 0 ≤ depth by omega)
  obtain ⟨b, a4, a4'⟩ := fits_spec (n := n) (l := l) (by omega) (by omega) hl
  rw [← hn] at a4
  rw [a4]
  simp only [Option.bind_some]
  cases b with
  | false => exact ⟨_, _, _, if_pos (by decide), fun h => (nomatch h)⟩
  | true =>
  rw [if_neg (by decide)]
  have hfit := a4'.1 rfl
  have hll : l'.length = l.length := by rw [hless, List.length_map]
  have hwn : p.Wasted.toNat = w := by omega
  have hnn : depth.toNat = n := by omega
  have ok : (p.Kind = 0 → ∀ x, x ∈ l' → l'[0]? = some x) → ∀ d, (2 ≤ p.Kind → ∃ q z, CodedOk p l' d q z) → SubOk p depth l l' d := fun h1 d h2 =>
    ⟨q1, q2, by omega, by omega, hs, by rw [hwn]; exact hless, by rw [hwn]; exact hback, by rw [hnn]; exact hfit, h1, h2⟩
  by_cases hk0 : p.Kind = 0
  · rw [if_pos (by simpa using hk0)]
    obtain ⟨b, a5, a5'⟩ := same_spec (l := l') (by omega) (by omega)
    rw [a5]
    simp only [Option.bind_some]
    cases b with
    | false => exact ⟨_, _, _, if_pos (by decide), fun h => (nomatch h)⟩
    | true =>
      rw [if_neg (by decide), if_pos (by rw [decide_eq_true_eq]; omega)]
      refine ⟨_, _, _, rfl, fun _ => ok (fun _ x hx => ?_) _ (fun h => by omega)⟩
      rw [List.getElem?_eq_getElem (by omega), a5'.1 rfl x hx]
  rw [if_neg (by simpa using hk0)]
  by_cases hk1 : p.Kind < 2
  · rw [if_pos (by simpa using hk1)]
    exact ⟨_, _, _, rfl, fun _ => ok (fun h => absurd h hk0) _ (fun h => by omega)⟩
  rw [if_neg (by simpa using hk1)]
  obtain ⟨q, a6, a6'⟩ := how_some hs (by omega)
  rw [a6]
  simp only [Option.bind_some]
  have ho2 := hs.o2
  have ho1 := hs.o1
  obtain ⟨c7, a7, a7'⟩ := pcheck_spec q (by omega)
  rw [a7]
  simp only [Option.bind_some]
  rcases (Decidable.em (c7 = 0)).symm with hc7 | hc7
  · rw [if_pos (by simpa using hc7)]
    exact ⟨_, _, _, rfl, fun h => absurd h hc7⟩
  rw [if_neg (by simpa using hc7)]
  obtain ⟨c8, a8, a8'⟩ := rcheck_spec p.Rice (l'.length : Int) p.Order hp
  rw [a8]
  simp only [Option.bind_some]
  rcases (Decidable.em (c8 = 0)).symm with hc8 | hc8
  · rw [if_pos (by simpa using hc8)]
    exact ⟨_, _, _, rfl, fun h => absurd h hc8⟩
  rw [if_neg (by simpa using hc8)]
  obtain ⟨d, c9, a9, a9', _⟩ := residual_spec (p := q) (l := l') (by omega) (by omega)
  rw [a9]
  simp only [Option.bind_some]
  unfold subframe_check_K1
  rcases (Decidable.em (c9 = 0)).symm with hc9 | hc9
  · rw [if_neg (by simpa using hc9)]
    exact ⟨_, _, _, rfl, fun h => absurd h hc9⟩
  rw [if_pos (by simpa using hc9)]
  obtain ⟨g1, g2, g3, g4, g5⟩ := a9' hc9
  obtain ⟨o, ho⟩ := Int.eq_ofNat_of_zero_le hs.o1
  obtain ⟨z, c10, a10, a10'⟩ := size_spec p.Rice o d (by omega) (by omega) hp
  rw [← ho] at a10
  rw [a10]
  simp only [Option.bind_some]
  refine ⟨_, _, _, rfl, fun hc10 => ok (fun h => absurd h hk0) _ fun _ => ⟨q, z, a6, a6', g1, g3, g2, g4, g5, ?_⟩⟩
  rw [a10]
  exact congrArg (fun c => some (z, c)) hc10
end Go.Vg

namespace Go.Vg

/-- How many samples are written as they are. -/
def plainN (p : subframe_Plan) (n : Nat) : Nat := if p.Kind = 0 then 1 else if p.Kind = 1 then n else p.Order.toNat
def kindN (p : subframe_Plan) : Nat := if p.Kind = 0 then 0 else if p.Kind = 1 then 1 else if p.Kind = 2 then 8 + p.Order.toNat else 31 + p.Order.toNat
def wasteBits (w : Nat) : List Bool := if w = 0 then bitsOf 1 0 else bitsOf 1 1 ++ (List.replicate (w - 1) false ++ [true])
def linBits (q : predict_Linear) : List Bool := bitsOf 4 (q.Precision.toNat - 1) ++ (escBits 5 q.Shift ++ q.Coefs.flatMap (escBits q.Precision.toNat))
def codeB (p : subframe_Plan) (d : List Int) : List Bool := if p.Kind < 2 then [] else if p.Kind = 2 then planBits p.Rice d p.Order.toNat else linBits p.Linear ++ planBits p.Rice d p.Order.toNat
def subBits (p : subframe_Plan) (depth : Int) (l' d : List Int) : List Bool :=
  bitsOf 7 (kindN p) ++ (wasteBits p.Wasted.toNat ++ ((l'.take (plainN p l'.length)).flatMap (escBits (depth - p.Wasted).toNat) ++ codeB p d))

section
variable {p : subframe_Plan} {depth : Int} {l l' d : List Int}
theorem SubOk.deep (h : SubOk p depth l l' d) : 1 ≤ (depth - p.Wasted).toNat ∧ (depth - p.Wasted).toNat ≤ 33 ∧ W (depth - p.Wasted) = ((depth - p.Wasted).toNat : Int) := by
  have := h.d1; have := h.d2; have := h.shape.w1; have := h.shape.w2
  refine ⟨by omega, by omega, ?_⟩
  rw [W_id (by omega) (by omega)]; omega
theorem SubOk.len (h : SubOk p depth l l' d) : l'.length = l.length := by rw [h.less, List.length_map]
theorem SubOk.fit (h : SubOk p depth l l' d) : ∀ x, x ∈ l' → EscOk (depth - p.Wasted).toNat x := by
  intro x hx
  have hd := h.deep
  have := h.d1; have := h.d2; have := h.shape.w1; have := h.shape.w2
  rw [h.less] at hx
  obtain ⟨y, hy, rfl⟩ := List.mem_map.1 hx
  have hb := h.back y hy
  have hf := h.fits y hy
  have e : (2 : Int) ^ (depth.toNat - 1) = 2 ^ ((depth - p.Wasted).toNat - 1) * 2 ^ p.Wasted.toNat := by
    rw [← Int.pow_add]; congr 1; omega
  rw [e] at hf
  have hp := pow_posI p.Wasted.toNat
  refine .inr ⟨hd.1, by omega, ?_⟩
  generalize (2 : Int) ^ ((depth - p.Wasted).toNat - 1) = A at *
  generalize (2 : Int) ^ p.Wasted.toNat = B at *
  refine ⟨?_, ?_⟩
  · refine Int.le_of_mul_le_mul_right ?_ hp
    rw [← hb, Int.neg_mul]; exact hf.1
  · refine Int.lt_of_mul_lt_mul_right (a := B) ?_ (Int.le_of_lt hp)
    rw [← hb]; exact hf.2
theorem SubOk.plain (h : SubOk p depth l l' d) : plainN p l'.length ≤ l'.length ∧ idx [(1 : Int), (l'.length : Int), p.Order, p.Order] p.Kind = some (plainN p l'.length : Int) := by
  have hs := h.shape
  have := hs.k1; have := hs.k2; have := hs.o1; have hl := h.len; have := h.n1
  unfold plainN
  rcases (show p.Kind = 0 ∨ p.Kind = 1 ∨ p.Kind = 2 ∨ p.Kind = 3 by omega) with hk | hk | hk | hk
  · rw [if_pos hk, hk]; exact ⟨by omega, rfl⟩
  · rw [if_neg (by omega), if_pos hk, hk]; exact ⟨Nat.le_refl _, rfl⟩
  · rw [if_neg (by omega), if_neg (by omega), hk]
    obtain ⟨q, z, hc⟩ := h.coded (by omega)
    have := hc.len; have := hc.le
    exact ⟨by omega, by show some p.Order = _; congr 1; omega⟩
  · rw [if_neg (by omega), if_neg (by omega), hk]
    obtain ⟨q, z, hc⟩ := h.coded (by omega)
    have := hc.len; have := hc.le
    exact ⟨by omega, by show some p.Order = _; congr 1; omega⟩
theorem SubOk.kind (h : SubOk p depth l l' d) : kindN p < 2 ^ 7 ∧ idx [(0 : Int), (1 : Int), (W (8 + p.Order)), (W (31 + p.Order))] p.Kind = some (kindN p : Int) := by
  have hs := h.shape
  have := hs.k1; have := hs.k2; have := hs.o1; have := hs.o2
  unfold kindN
  rcases (show p.Kind = 0 ∨ p.Kind = 1 ∨ p.Kind = 2 ∨ p.Kind = 3 by omega) with hk | hk | hk | hk
  · rw [if_pos hk, hk]; exact ⟨by omega, rfl⟩
  · rw [if_neg (by omega), if_pos hk, hk]; exact ⟨by omega, rfl⟩
  · rw [if_neg (by omega), if_neg (by omega), if_pos hk, hk]
    exact ⟨by omega, by show some (W (8 + p.Order)) = _; rw [W_id (by omega) (by omega)]; congr 1; omega⟩
  · rw [if_neg (by omega), if_neg (by omega), if_neg (by omega), hk]
    exact ⟨by omega, by show some (W (31 + p.Order)) = _; rw [W_id (by omega) (by omega)]; congr 1; omega⟩
theorem esc_flat_len (n : Nat) (l : List Int) : (l.flatMap (escBits n)).length = l.length * n := by
  induction l with
  | nil => simp
  | cons x l ih => rw [List.flatMap_cons, List.length_append, ih, escBits_length, List.length_cons, Nat.succ_mul]; omega
theorem SubOk.linfit (h : SubOk p depth l l' d) (hk : p.Kind = 3) : LinOk p.Linear ∧ ∀ x, x ∈ p.Linear.Coefs → EscOk p.Linear.Precision.toNat x := by
  obtain ⟨q, z, hc⟩ := h.coded (by omega)
  have hh := hc.how
  unfold subframe_how at hh
  rw [if_neg (by simp [hk])] at hh
  cases hh
  have hL := hc.lin
  refine ⟨hL, fun x hx => ?_⟩
  have := hL.p1; have := hL.p2
  have hf := hL.fit x hx
  exact .inr ⟨by omega, by omega, hf.1, hf.2⟩
theorem code_len (h : SubOk p depth l l' d) (hR : p.Rice.Params.length < 2 ^ 20) : (codeB p d).length ≤ 600 + p.Rice.Params.length * 10 + l.length * 65568 := by
  unfold codeB
  have hs := h.shape
  have := hs.o2; have := hs.o1; have hl := h.len; have := h.n2
  by_cases hk : p.Kind < 2
  · rw [if_pos hk]; simp
  rw [if_neg hk]
  obtain ⟨q, z, hc⟩ := h.coded (by omega)
  have hdl := hc.dlen
  obtain ⟨o, ho⟩ := Int.eq_ofNat_of_zero_le hs.o1
  have hz := hc.size
  rw [ho] at hz
  have h1 := plan_len (p := p.Rice) (skip := o) (d := d) (by omega) (by omega) (by omega) hz
  have h2 : d.length * 65568 ≤ l.length * 65568 := Nat.mul_le_mul_right _ (by omega)
  have e : p.Order.toNat = o := by omega
  rw [e]
  split
  · omega
  · rename_i hk2
    have hk3 : p.Kind = 3 := by have := hs.k2; omega
    obtain ⟨hL, _⟩ := h.linfit hk3
    unfold linBits
    have h3 : p.Linear.Coefs.length * p.Linear.Precision.toNat ≤ 32 * 15 := Nat.mul_le_mul hL.len (by have := hL.p2; omega)
    simp only [List.length_append, bitsOf_length, escBits_length, esc_flat_len]
    omega
theorem waste_len (w : Nat) : (wasteBits w).length ≤ 1 + w := by
  unfold wasteBits
  split
  · simp [bitsOf_length]
  · simp [bitsOf_length]; omega
theorem sub_len (h : SubOk p depth l l' d) (hR : p.Rice.Params.length < 2 ^ 20) : (subBits p depth l' d).length ≤ 700 + p.Rice.Params.length * 10 + l.length * 65568 + l.length * 33 := by
  have h1 := code_len h hR
  have h2 := waste_len p.Wasted.toNat
  have h3 := h.deep
  have h4 := h.plain.1
  have h5 := h.len
  have h6 : (l'.take (plainN p l'.length)).length * (depth - p.Wasted).toNat ≤ l.length * 33 := Nat.mul_le_mul (by simp; omega) h3.2.1
  have := h.shape.w2; have := h.d2
  unfold subBits
  simp only [List.length_append, bitsOf_length, esc_flat_len]
  omega

theorem write_K4 (h : SubOk p depth l l' d) (hk : 2 ≤ p.Kind) (hR : p.Rice.Params.length < 2 ^ 20) (bs : List Bool) (hL : bs.length < 2 ^ 37) :
    subframe_Write_K4 p (l', d, 0) ((bs.length : Int), pk bs) = some (0, ((bs ++ planBits p.Rice d p.Order.toNat).length : Int), pk (bs ++ planBits p.Rice d p.Order.toNat)) := by
  obtain ⟨q, z, hc⟩ := h.coded hk
  have hs := h.shape
  have := hs.o2; have hl := h.len; have := h.n2; have hdl := hc.dlen
  obtain ⟨o, ho⟩ := Int.eq_ofNat_of_zero_le hs.o1
  have hz := hc.size
  rw [ho] at hz
  unfold subframe_Write_K4
  have e : p.Order.toNat = o := by omega
  rw [e]
  simp only [ho]
  rw [plan_write (p := p.Rice) (skip := o) (d := d) (by omega) (by omega) (by omega) hz bs hL]
  rfl
theorem write_coefs (h : SubOk p depth l l' d) (hk : p.Kind = 3) (hR : p.Rice.Params.length < 2 ^ 20) (bs : List Bool) (hL : bs.length < 2 ^ 36) :
    iter (subframe_Write_L1 p (l', d, 0)) (0, (bs.length : Int), pk bs) = some (0, ((bs ++ (p.Linear.Coefs.flatMap (escBits p.Linear.Precision.toNat) ++ planBits p.Rice d p.Order.toNat)).length : Int), pk (bs ++ (p.Linear.Coefs.flatMap (escBits p.Linear.Precision.toNat) ++ planBits p.Rice d p.Order.toNat))) := by
  obtain ⟨hLin, hfit⟩ := h.linfit hk
  have := hLin.len; have := hLin.p1; have := hLin.p2
  obtain ⟨n, hn⟩ := Int.eq_ofNat_of_zero_le (show 0 ≤ p.Linear.Precision by omega)
  have en : p.Linear.Precision.toNat = n := by omega
  rw [en] at hfit ⊢
  refine Exists.elim (iter_for (step := subframe_Write_L1 p (l', d, 0)) p.Linear.Coefs.length (fun i a => a = ((i : Int), ((bs ++ (p.Linear.Coefs.take i).flatMap (escBits n)).length : Int), pk (bs ++ (p.Linear.Coefs.take i).flatMap (escBits n))))
    (fun r => r = (0, ((bs ++ (p.Linear.Coefs.flatMap (escBits n) ++ planBits p.Rice d p.Order.toNat)).length : Int), pk (bs ++ (p.Linear.Coefs.flatMap (escBits n) ++ planBits p.Rice d p.Order.toNat)))) (by omega) (fun i a hi ha => ?_) (fun a ha => ?_) (a0 := (0, (bs.length : Int), pk bs)) (by simp)) (fun r hr => by rw [hr.1, hr.2])
  · subst ha
    left
    unfold subframe_Write_L1
    rw [if_pos (by simpa using hi)]
    simp only [idx_nat hi, Option.bind_some, hn]
    have hlen : (bs ++ (p.Linear.Coefs.take i).flatMap (escBits n)).length + n < 2 ^ 40 := by
      have : (p.Linear.Coefs.take i).length * n ≤ 32 * 15 := Nat.mul_le_mul (by simp; omega) (by omega)
      rw [List.length_append, esc_flat_len]; omega
    rw [Signed_any _ (hfit _ (List.getElem_mem hi)) hlen]
    simp only [Option.bind_some]
    refine ⟨_, rfl, ?_⟩
    rw [W_succ (by omega), List.take_succ_eq_append_getElem hi, List.flatMap_append, List.append_assoc]
    simp only [List.flatMap_cons, List.flatMap_nil, List.append_nil]
  · subst ha
    unfold subframe_Write_L1
    rw [if_neg (by simp)]
    have hlen : (bs ++ p.Linear.Coefs.flatMap (escBits n)).length < 2 ^ 37 := by
      have : p.Linear.Coefs.length * n ≤ 32 * 15 := Nat.mul_le_mul (by omega) (by omega)
      rw [List.length_append, esc_flat_len]; omega
    rw [List.take_length]
    have := write_K4 h (by omega) hR _ hlen
    simp only [this, List.append_assoc]
    exact ⟨_, rfl, rfl⟩
theorem write_K2 (h : SubOk p depth l l' d) (hR : p.Rice.Params.length < 2 ^ 20) (bs : List Bool) (hL : bs.length < 2 ^ 35) :
    subframe_Write_K2 p (l', d, 0) ((bs.length : Int), pk bs) = some (0, ((bs ++ codeB p d).length : Int), pk (bs ++ codeB p d)) := by
  have hs := h.shape
  have := hs.k1; have := hs.k2
  unfold subframe_Write_K2 codeB
  by_cases h3 : p.Kind = 3
  · obtain ⟨hLin, hfit⟩ := h.linfit h3
    have := hLin.len; have := hLin.p1; have := hLin.p2; have := hLin.s1; have := hLin.s2
    rw [if_pos (by simpa using h3), if_neg (by omega), if_neg (by omega)]
    have e1 : W (p.Linear.Precision - 1) = ((p.Linear.Precision.toNat - 1 : Nat) : Int) := by rw [W_id (by omega) (by omega)]; omega
    simp only [lett, e1]
    rw [show (4 : Int) = ((4 : Nat) : Int) from rfl, Put_ok bs (by omega) (show p.Linear.Precision.toNat - 1 < 2 ^ 4 by omega) (by omega)]
    simp only [Option.bind_some]
    rw [show (5 : Int) = ((5 : Nat) : Int) from rfl, Signed_any _ (show EscOk 5 p.Linear.Shift from .inr ⟨by omega, by omega, by simp; omega, by simp; omega⟩) (by simp only [List.length_append, bitsOf_length]; omega)]
    simp only [Option.bind_some]
    rw [write_coefs h h3 hR _ (by simp only [List.length_append, bitsOf_length, escBits_length]; omega)]
    unfold linBits
    simp only [List.append_assoc]
  · rw [if_neg (by simpa using h3)]
    by_cases h2 : p.Kind = 2
    · rw [if_pos (by simpa using h2), if_neg (by omega), if_pos h2]
      exact write_K4 h (by omega) hR bs (by omega)
    · rw [if_neg (by simpa using h2), if_pos (by omega), List.append_nil]
      rfl
theorem write_K1 (h : SubOk p depth l l' d) (hR : p.Rice.Params.length < 2 ^ 20) (bs : List Bool) (hL : bs.length < 2 ^ 34) :
    subframe_Write_K1 p depth (l', d, 0) ((bs.length : Int), pk bs) = some (0, ((bs ++ ((l'.take (plainN p l'.length)).flatMap (escBits (depth - p.Wasted).toNat) ++ codeB p d)).length : Int), pk (bs ++ ((l'.take (plainN p l'.length)).flatMap (escBits (depth - p.Wasted).toNat) ++ codeB p d))) := by
  unfold subframe_Write_K1
  obtain ⟨hpl, hidx⟩ := h.plain
  have hl := h.len; have := h.n2
  obtain ⟨hd1, hd2, hd3⟩ := h.deep
  have hfit := h.fit
  have hsub : sub l' 0 (plainN p l'.length : Int) = some ((l'.drop 0).take (plainN p l'.length - 0)) := sub_ok (i := 0) (by omega) hpl
  simp only [hidx, Option.bind_some, hsub, List.drop_zero, Nat.sub_zero]
  generalize hxs : l'.take (plainN p l'.length) = xs
  have hxl : xs.length ≤ 65535 := by rw [← hxs]; simp; omega
  have hxf : ∀ x, x ∈ xs → EscOk (depth - p.Wasted).toNat x := fun x hx => hfit x (by rw [← hxs] at hx; exact List.mem_of_mem_take hx)
  refine Exists.elim (iter_for (step := subframe_Write_L2 p depth (l', d, 0) xs) xs.length (fun i a => a = ((i : Int), ((bs ++ (xs.take i).flatMap (escBits (depth - p.Wasted).toNat)).length : Int), pk (bs ++ (xs.take i).flatMap (escBits (depth - p.Wasted).toNat))))
    (fun r => r = (0, ((bs ++ (xs.flatMap (escBits (depth - p.Wasted).toNat) ++ codeB p d)).length : Int), pk (bs ++ (xs.flatMap (escBits (depth - p.Wasted).toNat) ++ codeB p d)))) (by omega) (fun i a hi ha => ?_) (fun a ha => ?_) (a0 := (0, (bs.length : Int), pk bs)) (by simp)) (fun r hr => by rw [← hr.2]; exact hr.1)
  · subst ha
    left
    unfold subframe_Write_L2
    rw [if_pos (by simpa using hi)]
    simp only [idx_nat hi, Option.bind_some, lett, hd3]
    have hlen : (bs ++ (xs.take i).flatMap (escBits (depth - p.Wasted).toNat)).length + (depth - p.Wasted).toNat < 2 ^ 40 := by
      have : (xs.take i).length * (depth - p.Wasted).toNat ≤ 65535 * 33 := Nat.mul_le_mul (by simp; omega) (by omega)
      rw [List.length_append, esc_flat_len]; omega
    rw [Signed_any _ (hxf _ (List.getElem_mem hi)) hlen]
    simp only [Option.bind_some]
    refine ⟨_, rfl, ?_⟩
    rw [W_succ (by omega), List.take_succ_eq_append_getElem hi, List.flatMap_append, List.append_assoc]
    simp only [List.flatMap_cons, List.flatMap_nil, List.append_nil]
  · subst ha
    unfold subframe_Write_L2
    rw [if_neg (by simp)]
    have hlen : (bs ++ xs.flatMap (escBits (depth - p.Wasted).toNat)).length < 2 ^ 35 := by
      have : xs.length * (depth - p.Wasted).toNat ≤ 65535 * 33 := Nat.mul_le_mul (by omega) (by omega)
      rw [List.length_append, esc_flat_len]; omega
    rw [List.take_length]
    have := write_K2 h hR _ hlen
    simp only [this, List.append_assoc]
    exact ⟨_, rfl, rfl⟩
theorem write_of (h : SubOk p depth l l' d) (h1 : subframe_check p depth l = some (l', d, 0)) (hR : p.Rice.Params.length < 2 ^ 20) (bs : List Bool) (hL : bs.length < 2 ^ 33) :
    subframe_Write p depth l (bs.length : Int) (pk bs) = some (0, ((bs ++ subBits p depth l' d).length : Int), pk (bs ++ subBits p depth l' d)) := by
  obtain ⟨k1, k2⟩ := h.kind
  have := h.shape.w1; have := h.shape.w2; have := h.d2
  unfold subframe_Write
  rw [h1]
  simp only [Option.bind_some]
  rw [if_neg (by decide), k2]
  simp only [Option.bind_some]
  rw [show (7 : Int) = ((7 : Nat) : Int) from rfl, Put_ok bs (by omega) k1 (by omega)]
  simp only [Option.bind_some]
  unfold subBits wasteBits
  by_cases hw : p.Wasted = 0
  · have e2 : bits_Writer_Put 1 0 _ _ = _ := Put_ok (n := 1) (v := 0) (bs ++ bitsOf 7 (kindN p)) (by omega) (by decide) (by simp only [List.length_append, bitsOf_length]; omega)
    rw [if_pos (by simpa using hw), if_pos (by omega), e2]
    simp only [Option.bind_some]
    rw [write_K1 h hR _ (by simp only [List.length_append, bitsOf_length]; omega)]
    simp only [List.append_assoc]
  · rw [if_neg (by simpa using hw), if_neg (by omega)]
    have e1 : W (p.Wasted - 1) = ((p.Wasted.toNat - 1 : Nat) : Int) := by rw [W_id (by omega) (by omega)]; omega
    have e2 : bits_Writer_Put 1 1 _ _ = _ := Put_ok (n := 1) (v := 1) (bs ++ bitsOf 7 (kindN p)) (by omega) (by decide) (by simp only [List.length_append, bitsOf_length]; omega)
    rw [e2]
    simp only [Option.bind_some, lett, e1]
    rw [Unary_ok _ (by omega) (by simp only [List.length_append, bitsOf_length]; omega)]
    simp only [Option.bind_some]
    rw [write_K1 h hR _ (by simp only [List.length_append, bitsOf_length, List.length_replicate, List.length_singleton]; omega)]
    simp only [List.append_assoc]
theorem write_spec (hl : l.length < 2 ^ 40) (hR : p.Rice.Params.length < 2 ^ 20) (bs : List Bool) (hL : bs.length < 2 ^ 33) : ∃ c l' d, (c ≠ 0 → subframe_Write p depth l (bs.length : Int) (pk bs) = some (c, (bs.length : Int), pk bs)) ∧
    (c = 0 → SubOk p depth l l' d ∧ subframe_Write p depth l (bs.length : Int) (pk bs) = some (0, ((bs ++ subBits p depth l' d).length : Int), pk (bs ++ subBits p depth l' d))) := by
  obtain ⟨l', d, c, h1, h2⟩ := check_spec p depth l hl (by omega)
  refine ⟨c, l', d, fun hc => ?_, fun hc => ⟨h2 hc, ?_⟩⟩
  · unfold subframe_Write
    rw [h1]
    simp only [Option.bind_some]
    rw [if_pos (by simpa using hc)]
  · subst hc
    exact write_of (h2 rfl) h1 hR bs hL
end
end Go.Vg

namespace Go.Vg

section
variable {b : List Int} {pos : Nat} {t : List Bool}
theorem take_at {n v : Nat} (hb : Bytes8 b) (hbl : b.length < 2 ^ 40) (hn : n ≤ 48) (hv : v < 2 ^ n) (h : (bitsB b).drop pos = bitsOf n v ++ t) (hp : pos ≤ 8 * b.length) :
    subframe_reader_take (n : Int) 0 ⟨⟨(pos : Int)⟩, b⟩ = some ((v : Int), 0, ((pos + n : Nat) : Int)) ∧ (bitsB b).drop (pos + n) = t ∧ pos + n ≤ 8 * b.length := by
  have h1 := drop_more h
  have h2 := drop_len h (by rw [bitsB_length]; exact hp)
  rw [bitsOf_length] at h1 h2
  rw [bitsB_length] at h2
  refine ⟨?_, h1, h2⟩
  unfold subframe_reader_take
  rw [take_of hb hn hv h hp hbl]
  rfl
theorem signed_at {n : Nat} {v : Int} (hb : Bytes8 b) (hbl : b.length < 2 ^ 40) (hv : EscOk n v) (h : (bitsB b).drop pos = escBits n v ++ t) (hp : pos ≤ 8 * b.length) :
    subframe_reader_signed (n : Int) 0 ⟨⟨(pos : Int)⟩, b⟩ = some (v, 0, ((pos + n : Nat) : Int)) ∧ (bitsB b).drop (pos + n) = t ∧ pos + n ≤ 8 * b.length := by
  have h1 := drop_more h
  have h2 := drop_len h (by rw [bitsB_length]; exact hp)
  rw [escBits_length] at h1 h2
  rw [bitsB_length] at h2
  refine ⟨?_, h1, h2⟩
  unfold subframe_reader_signed
  rw [signed_any hb hv h hp hbl]
  rfl

theorem head_K1_of {w : Nat} {depth kind order : Int} {y2 : bits_Reader} {r4 : Int × Int × Int} (hb : Bytes8 b) (hbl : b.length < 2 ^ 20) (hy : y2.m_b = b) (hr : r4.2.2 = (pos : Int)) (hw : (w : Int) < depth) (hw2 : w ≤ 33) (h : (bitsB b).drop pos = wasteBits w ++ t) (hp : pos ≤ 8 * b.length) :
    subframe_reader_head_K1 depth y2 r4 (0, kind, order) = some (kind, order, (w : Int), 0, ((pos + (wasteBits w).length : Nat) : Int)) := by
  unfold subframe_reader_head_K1
  rw [hr, hy]
  unfold wasteBits at h ⊢
  by_cases h0 : w = 0
  · rw [if_pos h0] at h ⊢
    obtain ⟨g1, g2, g3⟩ := take_at (n := 1) (v := 0) hb (by omega) (by omega) (by decide) h hp
    have g1' : subframe_reader_take 1 0 ⟨⟨(pos : Int)⟩, b⟩ = _ := g1
    simp only [g1', Option.bind_some]
    rw [if_neg (by decide)]
    unfold subframe_reader_head_K2
    rw [h0, bitsOf_length]
    rfl
  · rw [if_neg h0, List.append_assoc] at h
    rw [if_neg h0]
    obtain ⟨g1, g2, g3⟩ := take_at (n := 1) (v := 1) hb (by omega) (by omega) (by decide) h hp
    have g1' : subframe_reader_take 1 0 ⟨⟨(pos : Int)⟩, b⟩ = _ := g1
    simp only [g1', Option.bind_some]
    rw [if_pos (by decide)]
    rw [List.append_assoc] at g2
    have hu := unary_spec hb g2 hbl g3
    rw [hu]
    simp only [Option.bind_some, subframe_reader_told]
    rw [if_neg (by decide)]
    simp only [Option.bind_some]
    have e1 : W (((w - 1 : Nat) : Int) + 1) = (w : Int) := by rw [W_id (by omega) (by omega)]; omega
    rw [e1]
    unfold lett subframe_reader_wrong subframe_reader_head_K2
    have e2 : decide ((w : Int) ≥ depth) = false := decide_eq_false (by omega)
    simp only [e2]
    simp only [Bool.false_eq_true, if_false, Option.bind_some, List.length_append, bitsOf_length, List.length_replicate, List.length_singleton]
    refine congrArg (fun z : Nat => some (kind, order, (w : Int), (0 : Int), (z : Int))) ?_
    omega
theorem head_of {p : subframe_Plan} {depth : Int} (hs : ShapeOk p depth) (hd : depth ≤ 33) (hb : Bytes8 b) (hbl : b.length < 2 ^ 20) (h : (bitsB b).drop pos = bitsOf 7 (kindN p) ++ (wasteBits p.Wasted.toNat ++ t)) (hp : pos ≤ 8 * b.length) :
    subframe_reader_head depth 0 ⟨⟨(pos : Int)⟩, b⟩ = some (p.Kind, p.Order, p.Wasted, 0, ((pos + (7 + (wasteBits p.Wasted.toNat).length) : Nat) : Int)) := by
  have := hs.k1; have := hs.k2; have := hs.o1; have := hs.o2; have := hs.ofix; have := hs.oplain; have := hs.olin; have hw1 := hs.w1; have hw2 := hs.w2
  have hk : kindN p < 64 := by unfold kindN; split <;> (try split) <;> (try split) <;> omega
  have e7 : bitsOf 7 (kindN p) = bitsOf 1 0 ++ bitsOf 6 (kindN p) := by
    have := bitsOf_add 1 6 (kindN p)
    rw [Nat.div_eq_of_lt (by omega)] at this
    exact this
  rw [e7, List.append_assoc] at h
  obtain ⟨g1, g2, g3⟩ := take_at (n := 1) (v := 0) hb (by omega) (by omega) (by decide) h hp
  obtain ⟨k1, k2, k3⟩ := take_at (n := 6) hb (by omega) (by omega) (by omega) g2 g3
  unfold subframe_reader_head
  have g1' : subframe_reader_take 1 0 ⟨⟨(pos : Int)⟩, b⟩ = _ := g1
  rw [g1']
  simp only [Option.bind_some, lett, subframe_reader_wrong]
  have e0 : ((((0 : Nat) : Int)) == 1) = false := rfl
  simp only [e0, Bool.false_eq_true, if_false, Option.bind_some]
  have k1' : subframe_reader_take 6 0 ⟨⟨((pos + 1 : Nat) : Int)⟩, b⟩ = _ := k1
  rw [k1']
  simp only [Option.bind_some]
  have fin : ∀ kind order : Int, kind = p.Kind → order = p.Order → subframe_reader_head_K1 depth ⟨⟨(pos : Int)⟩, b⟩ ((kindN p : Int), 0, ((pos + 1 + 6 : Nat) : Int)) (0, kind, order) = some (p.Kind, p.Order, p.Wasted, 0, ((pos + (7 + (wasteBits p.Wasted.toNat).length) : Nat) : Int)) := by
    intro kind order hk ho
    rw [head_K1_of (w := p.Wasted.toNat) (y2 := ⟨⟨(pos : Int)⟩, b⟩) hb hbl rfl rfl (by omega) (by omega) k2 k3, hk, ho]
    have : ((p.Wasted.toNat : Nat) : Int) = p.Wasted := by omega
    rw [this]
    refine congrArg (fun z : Nat => some (p.Kind, p.Order, p.Wasted, (0 : Int), (z : Int))) ?_
    omega
  rcases (show p.Kind = 0 ∨ p.Kind = 1 ∨ p.Kind = 2 ∨ p.Kind = 3 by omega) with hk | hk | hk | hk
  · have e : kindN p = 0 := by unfold kindN; rw [if_pos hk]
    rw [if_pos (by rw [e]; rfl)]
    exact fin _ _ (by rw [e, hk]; rfl) (by omega)
  · have e : kindN p = 1 := by unfold kindN; rw [if_neg (by omega), if_pos hk]
    rw [if_pos (by rw [e]; rfl)]
    exact fin _ _ (by rw [e, hk]; rfl) (by omega)
  · have e : kindN p = 8 + p.Order.toNat := by unfold kindN; rw [if_neg (by omega), if_neg (by omega), if_pos hk]
    rw [if_neg (by rw [decide_eq_true_eq]; omega), if_pos (by rw [ite_and, Bool.and_eq_true, decide_eq_true_eq, decide_eq_true_eq]; omega)]
    exact fin _ _ (by omega) (by rw [W_id (by omega) (by omega)]; omega)
  · have e : kindN p = 31 + p.Order.toNat := by unfold kindN; rw [if_neg (by omega), if_neg (by omega), if_neg (by omega)]
    rw [if_neg (by rw [decide_eq_true_eq]; omega), if_neg (by rw [ite_and, Bool.and_eq_true, decide_eq_true_eq, decide_eq_true_eq]; omega), if_pos (by rw [decide_eq_true_eq]; omega)]
    exact fin _ _ (by omega) (by rw [W_id (by omega) (by omega)]; omega)

/-- What is read one by one. -/
theorem esc_next {n i : Nat} {xs : List Int} (hi : i < xs.length) (h : (bitsB b).drop pos = xs.flatMap (escBits n) ++ t) : (bitsB b).drop (pos + i * n) = escBits n xs[i] ++ ((xs.drop (i + 1)).flatMap (escBits n) ++ t) := by
  have hx : xs = xs.take i ++ xs[i] :: xs.drop (i + 1) := by rw [← List.drop_eq_getElem_cons hi, List.take_append_drop]
  have hfm : xs.flatMap (escBits n) = (xs.take i).flatMap (escBits n) ++ (escBits n xs[i] ++ (xs.drop (i + 1)).flatMap (escBits n)) := by
    have := congrArg (List.flatMap (escBits n)) hx
    rw [List.flatMap_append, List.flatMap_cons] at this
    exact this
  have := drop_more (x := (xs.take i).flatMap (escBits n)) (t := escBits n xs[i] ++ ((xs.drop (i + 1)).flatMap (escBits n) ++ t)) (b := bitsB b) (p := pos) (by rw [h, hfm]; simp only [List.append_assoc])
  rw [esc_flat_len, List.length_take, Nat.min_eq_left (by omega)] at this
  exact this
theorem esc_all {n : Nat} {xs : List Int} (h : (bitsB b).drop pos = xs.flatMap (escBits n) ++ t) (hp : pos ≤ 8 * b.length) : (bitsB b).drop (pos + xs.length * n) = t ∧ pos + xs.length * n ≤ 8 * b.length := by
  have h1 := drop_more h
  have h2 := drop_len h (by rw [bitsB_length]; exact hp)
  rw [esc_flat_len] at h1 h2
  rw [bitsB_length] at h2
  exact ⟨h1, h2⟩
theorem esc_le {n i : Nat} {xs : List Int} (hi : i ≤ xs.length) (h : (bitsB b).drop pos = xs.flatMap (escBits n) ++ t) (hp : pos ≤ 8 * b.length) : pos + i * n ≤ 8 * b.length := by
  have := (esc_all h hp).2
  have : i * n ≤ xs.length * n := Nat.mul_le_mul_right _ hi
  omega

theorem linear_of {q : predict_Linear} (hL : LinOk q) (hf : ∀ x, x ∈ q.Coefs → EscOk q.Precision.toNat x) (hb : Bytes8 b) (hbl : b.length < 2 ^ 40) (h : (bitsB b).drop pos = linBits q ++ t) (hp : pos ≤ 8 * b.length) :
    subframe_reader_linear (q.Coefs.length : Int) 0 ⟨⟨(pos : Int)⟩, b⟩ = some (q.Precision, q.Shift, q.Coefs, 0, ((pos + (linBits q).length : Nat) : Int)) := by
  have := hL.len; have := hL.p1; have := hL.p2; have := hL.s1; have := hL.s2
  obtain ⟨n, hn⟩ := Int.eq_ofNat_of_zero_le (show 0 ≤ q.Precision by omega)
  have en : q.Precision.toNat = n := by omega
  rw [en] at hf
  unfold linBits at h ⊢
  rw [en] at h ⊢
  rw [List.append_assoc, List.append_assoc] at h
  obtain ⟨g1, g2, g3⟩ := take_at (n := 4) hb hbl (by omega) (show n - 1 < 2 ^ 4 by omega) h hp
  have g1' : subframe_reader_take 4 0 ⟨⟨(pos : Int)⟩, b⟩ = _ := g1
  obtain ⟨k1, k2, k3⟩ := signed_at (n := 5) hb hbl (show EscOk 5 q.Shift from .inr ⟨by omega, by omega, by simp; omega, by simp; omega⟩) g2 g3
  have k1' : subframe_reader_signed 5 0 ⟨⟨((pos + 4 : Nat) : Int)⟩, b⟩ = _ := k1
  have e1 : W (((n - 1 : Nat) : Int) + 1) = (n : Int) := by rw [W_id (by omega) (by omega)]; omega
  have e2 : ((n : Int) == 16) = false := by rw [beq_eq_false_iff_ne]; omega
  have e3 : decide (q.Shift < 0) = false := decide_eq_false (by omega)
  unfold subframe_reader_linear
  rw [g1']
  simp only [Option.bind_some, lett, subframe_reader_wrong, e1, e2, Bool.false_eq_true, if_false]
  rw [k1']
  simp only [Option.bind_some, e3, Bool.false_eq_true, if_false]
  refine Exists.elim (iter_for (step := subframe_reader_linear_L1 (q.Coefs.length : Int) ⟨⟨(pos : Int)⟩, b⟩ (((n - 1 : Nat) : Int), 0, ((pos + 4 : Nat) : Int)) (q.Shift, 0, ((pos + 4 + 5 : Nat) : Int))) q.Coefs.length (fun i a => a = ((i : Int), 0, ((pos + 4 + 5 + i * n : Nat) : Int), q.Coefs.take i))
    (fun r => r = (q.Precision, q.Shift, q.Coefs, 0, ((pos + (bitsOf 4 (n - 1) ++ (escBits 5 q.Shift ++ q.Coefs.flatMap (escBits n))).length : Nat) : Int))) (by omega) (fun i a hi ha => ?_) (fun a ha => ?_) (a0 := (0, 0, ((pos + 4 + 5 : Nat) : Int), [])) (by simp; omega)) (fun r hr => by rw [← hr.2]; exact hr.1)
  · subst ha
    left
    unfold subframe_reader_linear_L1
    rw [if_pos (by simpa using hi), if_pos (by rfl)]
    simp only [lett, e1]
    have hnx := esc_next hi k2
    obtain ⟨m1, m2, m3⟩ := signed_at hb hbl (hf _ (List.getElem_mem hi)) hnx (esc_le (by omega) k2 k3)
    rw [m1]
    simp only [Option.bind_some]
    rw [app_ok (by simp; omega)]
    simp only [Option.bind_some]
    unfold subframe_reader_linear_K2
    refine ⟨_, rfl, ?_⟩
    rw [W_succ (by omega), List.take_succ_eq_append_getElem hi, Nat.succ_mul, Nat.add_assoc]
  · subst ha
    unfold subframe_reader_linear_L1 subframe_reader_linear_K1
    rw [if_neg (by simp)]
    refine ⟨_, rfl, ?_⟩
    simp only [e1, List.take_length, List.length_append, bitsOf_length, escBits_length, esc_flat_len]
    rw [hn]
    refine congrArg (fun z : Nat => ((n : Int), q.Shift, q.Coefs, (0 : Int), (z : Int))) ?_
    omega

theorem shl_int {x : Int} {s : Nat} (hs : s ≤ 64) (h1 : -9223372036854775808 ≤ x * 2 ^ s) (h2 : x * 2 ^ s ≤ 9223372036854775807) : shD .shl .i64 x (s : Int) = x * 2 ^ s := by
  simp only [shD, IntKind.bits, Int.toNat_natCast]
  rw [Nat.min_eq_left hs]
  exact i64_id h1 h2
/-- The samples with their noughts. -/
theorem read_K2_of {w : Nat} {l l' : List Int} {r1 : Int × Int × Int × Int × Int} {j4 : Int × Int × Int × Int × (List Int) × Int × Int × (List Int) × (List Int) × (List Int)} (hj : j4.2.2.2.2.2.2.2.2.2 = l') (hr : r1.2.2.1 = (w : Int)) (hw : w ≤ 33) (hlen : l.length = l'.length) (hl : l.length < 2 ^ 40)
    (hx : ∀ (i : Nat) (x y : Int), l'[i]? = some x → l[i]? = some y → y = x * 2 ^ w ∧ -9223372036854775808 ≤ y ∧ y ≤ 9223372036854775807) :
    subframe_reader_read_K2 r1 j4 = subframe_reader_read_K3 r1 j4 l := by
  unfold subframe_reader_read_K2
  have hK : ∃ R, subframe_reader_read_K3 r1 j4 l = some R := ⟨_, rfl⟩
  obtain ⟨R, hR⟩ := hK
  rw [hR, hj]
  refine Exists.elim (iter_for (step := subframe_reader_read_L1 r1 j4) l'.length (fun i a => a = ((i : Int), l.take i ++ l'.drop i)) (fun r => r = R) (by omega) (fun i a hi ha => ?_) (fun a ha => ?_) (a0 := (0, l')) (by simp)) (fun r hr => by rw [← hr.2]; exact hr.1)
  · subst ha
    left
    unfold subframe_reader_read_L1
    have hil : i < l.length := by omega
    have hlen2 : (l.take i ++ l'.drop i).length = l'.length := by simp; omega
    have hget : (l.take i ++ l'.drop i)[i]? = some l'[i] := by
      rw [List.getElem?_append_right (by simp; omega), List.length_take, Nat.min_eq_left (by omega), Nat.sub_self, List.getElem?_drop]
      exact List.getElem?_eq_getElem hi
    obtain ⟨q1, q2, q3⟩ := hx i _ _ (List.getElem?_eq_getElem hi) (List.getElem?_eq_getElem hil)
    rw [hj, if_pos (by simpa using hi), need_ok (by simp), need_ok (by rw [hlen2]; simpa using hi), idx_ok hget]
    simp only [Option.bind_some]
    rw [hr, need_ok (by simp), need_ok (by simp), need_ok (by rw [hlen2]; simpa using hi), shl_int (by omega) (by rw [← q1]; exact q2) (by rw [← q1]; exact q3), ← q1]
    unfold upd
    simp only [Option.bind_some]
    refine ⟨_, rfl, ?_⟩
    rw [W_succ (by omega)]
    refine congrArg (fun z => (((i + 1 : Nat) : Int), z)) ?_
    rw [Int.toNat_natCast, List.set_append_right _ _ (by simp; omega), List.length_take, Nat.min_eq_left (by omega), Nat.sub_self, List.drop_eq_getElem_cons hi, List.set_cons_zero, List.take_succ_eq_append_getElem hil, List.append_assoc]
    rfl
  · subst ha
    unfold subframe_reader_read_L1
    rw [hj, if_neg (by simp)]
    rw [List.drop_length, List.append_nil, ← hlen, List.take_length, hR]
    exact ⟨_, rfl, rfl⟩

theorem rep_mul {n : Nat} (hn : n ≤ 65535) : math_bits_Mul (IntKind.u64.wrap ((1 : Nat) : Int)) (IntKind.u64.wrap (n : Int)) = some (0, (n : Int)) := by
  have e1 : IntKind.u64.wrap (n : Int) = (n : Int) := wrap_id (by rw [has_iff]; simp only [lo, hi]; omega)
  have e0 : IntKind.u64.wrap ((1 : Nat) : Int) = 1 := by decide
  have a1 : shD .shr .u64 1 32 = 0 := by decide
  have a2 : shD .shr .u64 (n : Int) 32 = 0 := by
    show (n : Int).fdiv (2 ^ 32) = 0
    rw [Int.fdiv_eq_ediv_of_nonneg _ (by decide)]
    omega
  have a3 : arD .and .u64 1 4294967295 = 1 := by decide
  have a4 : arD .and .u64 (n : Int) 4294967295 = (n : Int) := by
    have h1 : (BitVec.ofInt IntKind.u64.bits (n : Int) &&& BitVec.ofInt IntKind.u64.bits 4294967295).toNat = n := by
      rw [BitVec.ofInt_natCast, show (4294967295 : Int) = ((4294967295 : Nat) : Int) from rfl, BitVec.ofInt_natCast, BitVec.toNat_and, BitVec.toNat_ofNat, BitVec.toNat_ofNat]
      simp only [IntKind.bits]
      rw [Nat.mod_eq_of_lt (by omega), Nat.mod_eq_of_lt (by decide), show 4294967295 = 2 ^ 32 - 1 from rfl, Nat.and_two_pow_sub_one_eq_mod, Nat.mod_eq_of_lt (by omega)]
    show IntKind.u64.wrap _ = _
    rw [h1, e1]
  have z0 : IntKind.u64.wrap 0 = 0 := by decide
  have s0 : shD .shr .u64 0 32 = 0 := by decide
  have n0 : arD .and .u64 0 4294967295 = 0 := by decide
  unfold math_bits_Mul math_bits_Mul64
  rw [e0, e1]
  simp only [a1, a2, a3, a4, Int.one_mul, Int.zero_mul, Int.mul_zero, Int.add_zero, Int.zero_add, z0, s0, n0, e1, Option.bind_some]
theorem repeat_of {x : Int} {n : Nat} (hn : n ≤ 65535) (h1 : 1 ≤ n) : slices_Repeat_sint_int [x] (n : Int) = some (List.replicate n x) := by
  unfold slices_Repeat_sint_int
  rw [if_neg (by simp)]
  have e := rep_mul hn
  have hLIM : (65535 : Nat) ≤ LIM := by decide
  rw [show (([x] : List Int).length : Int) = ((1 : Nat) : Int) from rfl, e]
  simp only [Option.bind_some]
  rw [if_neg (by rw [ite_or, Bool.or_eq_true, decide_eq_true_eq, decide_eq_true_eq]; omega), W_id (by omega) (by omega), mks_ok (by omega) (Nat.le_trans hn hLIM)]
  simp only [Option.bind_some]
  unfold cpq
  rw [if_pos ⟨by omega, by simp⟩]
  simp only [Option.bind_some, List.length_replicate, List.length_singleton, Int.toNat_natCast, Int.toNat_zero]
  rw [Nat.min_eq_left h1, if_pos (by rfl)]
  have st : ([] : List Int) ++ (([x] : List Int).take 1 ++ (List.replicate n (0 : Int)).drop (0 + 1)) = List.replicate 1 x ++ List.replicate (n - 1) 0 := by simp
  rw [List.take_zero, st]
  refine iter_eq (I := fun a : Int × List Int => ∃ k : Nat, 1 ≤ k ∧ k ≤ n ∧ a = ((k : Int), List.replicate k x ++ List.replicate (n - k) 0)) (m := fun a => n - a.1.toNat) _ (fun a ha => ?_) ⟨1, by omega, h1, rfl⟩ (Nat.lt_of_le_of_lt (show _ ≤ 65535 by omega) (by decide))
  obtain ⟨k, hk1, hk2, rfl⟩ := ha
  have hlen : (List.replicate k x ++ List.replicate (n - k) (0 : Int)).length = n := by simp; omega
  unfold slices_Repeat_sint_int_L1
  dsimp only
  rcases Nat.lt_or_ge k n with hlt | hge
  · left
    rw [if_pos (by rw [hlen]; simpa using hlt), hlen, sub_ok (by omega) (by omega)]
    simp only [Option.bind_some]
    have hs : sub (List.replicate k x ++ List.replicate (n - k) (0 : Int)) 0 (k : Int) = some _ := sub_ok (i := 0) (by omega) (by omega)
    rw [hs]
    simp only [Option.bind_some]
    unfold cpq
    rw [if_pos ⟨by omega, by omega⟩]
    simp only [Option.bind_some]
    have t1 : ((List.replicate k x ++ List.replicate (n - k) (0 : Int)).drop (0 : Int).toNat).take ((k : Int) - 0).toNat = List.replicate k x := by
      simp
    have t2 : ((n : Int) - (k : Int)).toNat = n - k := by omega
    rw [t1, t2]
    simp only [List.length_replicate, Int.toNat_natCast]
    rw [if_pos (by rw [decide_eq_true_eq]; omega)]
    refine ⟨_, rfl, ⟨k + min k (n - k), by omega, by omega, ?_⟩, ?_⟩
    · rw [W_id (by omega) (by omega)]
      refine Prod.ext (by simp) ?_
      show _ = _
      rw [List.take_append_of_le_length (by simp), List.take_of_length_le (by simp), List.take_replicate, ← List.drop_drop, List.drop_left' (by simp), List.drop_replicate, ← List.append_assoc, List.replicate_append_replicate, Nat.min_eq_left (Nat.min_le_left _ _), Nat.sub_sub]
    · rw [W_id (by omega) (by omega)]
      simp only
      omega
  · right
    obtain rfl : k = n := by omega
    rw [if_neg (by rw [hlen]; simp)]
    unfold slices_Repeat_sint_int_K1
    rw [Nat.sub_self]
    simp
end
end Go.Vg

namespace Go.Vg

section
variable {p : subframe_Plan} {depth : Int} {l l' d : List Int} {b : List Int} {pos : Nat} {t : List Bool}
theorem SubOk.shl (h : SubOk p depth l l' d) : ∀ (i : Nat) (x y : Int), l'[i]? = some x → l[i]? = some y → y = x * 2 ^ p.Wasted.toNat ∧ -9223372036854775808 ≤ y ∧ y ≤ 9223372036854775807 := by
  intro i x y hx hy
  have hd2 := h.d2
  rw [h.less, List.getElem?_map, hy] at hx
  cases hx
  have hm := List.mem_of_getElem? hy
  have hf := h.fits y hm
  have h1 := h.back y hm
  have e : (2 : Nat) ^ (depth.toNat - 1) ≤ 2 ^ 32 := pow_le (by omega)
  have ec := pow_cast (depth.toNat - 1)
  refine ⟨h1, ?_, ?_⟩
  · omega
  · omega
theorem SubOk.fitP (h : SubOk p depth l l' d) : FitsP (depth - p.Wasted).toNat l' := by
  intro x hx
  have := h.deep
  rcases h.fit x hx with ⟨h0, _⟩ | ⟨_, _, h3, h4⟩
  · omega
  · exact ⟨h3, h4⟩
theorem eta (q : subframe_Plan) {k o w a b m r : Int} {c ps bs : List Int} (h1 : q.Kind = k) (h2 : q.Order = o) (h3 : q.Wasted = w) (h4 : q.Linear.Precision = a) (h5 : q.Linear.Shift = b) (h6 : q.Linear.Coefs = c) (h7 : q.Rice.Method = m) (h8 : q.Rice.Order = r) (h9 : q.Rice.Params = ps) (h10 : q.Rice.Bits = bs) :
    (⟨k, o, w, ⟨a, b, c⟩, ⟨m, r, ps, bs⟩⟩ : subframe_Plan) = q := by
  cases q with
  | mk K O Wd L R =>
    cases L; cases R
    simp only at h1 h2 h3 h4 h5 h6 h7 h8 h9 h10
    subst h1 h2 h3 h4 h5 h6 h7 h8 h9 h10
    rfl

/-- What Read answers where all is right. -/
def readAns (p : subframe_Plan) (l : List Int) (at_ : Nat) : List Int × Int × Int × Int × Int × Int × List Int × Int × Int × List Int × List Int × Int × Int :=
  (l, p.Kind, p.Order, p.Wasted, p.Linear.Precision, p.Linear.Shift, p.Linear.Coefs, p.Rice.Method, p.Rice.Order, p.Rice.Params, p.Rice.Bits, 0, (at_ : Int))

theorem read_K4_of (h : SubOk p depth l l' d) (hk : 2 ≤ p.Kind) (hR : p.Rice.Params.length < 2 ^ 20) (hl : l.length < 2 ^ 20) (hb : Bytes8 b) (hbl : b.length < 2 ^ 20) {e4 : Int} {y3 : bits_Reader} (hy : y3.m_b = b) {at0 : Int} (hd : (bitsB b).drop pos = planBits p.Rice d p.Order.toNat ++ t) (hp : pos ≤ 8 * b.length) :
    subframe_reader_read_K4 (l.length : Int) depth y3 (p.Kind, p.Order, p.Wasted, 0, at0) (0, e4, l'.take (plainN p l'.length)) (0, (pos : Int), p.Linear.Precision, p.Linear.Shift, p.Linear.Coefs) = some (readAns p l (pos + (planBits p.Rice d p.Order.toNat).length)) := by
  obtain ⟨q, z, hc⟩ := h.coded hk
  have hs := h.shape
  have hll := h.len; have hdl := hc.dlen; have hle := hc.le; have hcl := hc.len; have ho2 := hs.o2
  obtain ⟨o, ho⟩ := Int.eq_ofNat_of_zero_le hs.o1
  have eo : p.Order.toNat = o := by omega
  have hz := hc.size
  rw [ho] at hz
  have hrd := plan_read (p := p.Rice) (skip := o) (d := d) (by omega) (by omega) (by omega) hz hb hbl (by rw [← eo]; exact hd) hp
  have e1 : d.length + o = l.length := by omega
  rw [e1, ← ho] at hrd
  unfold subframe_reader_read_K4
  rw [if_neg (by simp), hy]
  simp only [hrd, Option.bind_some]
  unfold subframe_reader_read_K6
  rw [if_pos (by rfl)]
  simp only [eta p rfl rfl rfl rfl rfl rfl rfl rfl rfl rfl, hc.how, Option.bind_some]
  have epl : plainN p l'.length = q.Coefs.length := by
    unfold plainN
    rw [if_neg (by omega), if_neg (by omega)]
    omega
  rw [epl, restore_spec (by omega) hc.lin hc.le hc.may hc.dlen hc.told]
  simp only [Option.bind_some]
  unfold subframe_reader_read_K7
  rw [if_pos (by rfl)]
  obtain ⟨hd1, hd2, hd3⟩ := h.deep
  obtain ⟨bb, f1, f2⟩ := fits_spec (n := (depth - p.Wasted).toNat) (l := l') hd1 (by omega) (by omega)
  simp only [hd3, f1, f2.2 h.fitP, Option.bind_some, lett, subframe_reader_wrong]
  have e2 : (if (!true) = true then ((0 : Int) == 0) else false) = false := rfl
  simp only [e2, Bool.false_eq_true, if_false, Option.bind_some]
  unfold subframe_reader_read_K5
  have hw1 := hs.w1; have hw2 := hs.w2; have hdep := h.d2
  rw [read_K2_of (w := p.Wasted.toNat) (l := l) rfl (by show p.Wasted = _; omega) (by omega) hll.symm (by omega) h.shl]
  rw [eo]
  rfl
theorem read_K1_of (h : SubOk p depth l l' d) (hR : p.Rice.Params.length < 2 ^ 20) (hl : l.length < 2 ^ 20) (hb : Bytes8 b) (hbl : b.length < 2 ^ 20) {y3 : bits_Reader} (hy : y3.m_b = b) {at0 : Int} (hd : (bitsB b).drop pos = codeB p d ++ t) (hp : pos ≤ 8 * b.length) :
    subframe_reader_read_K1 (l.length : Int) depth y3 (p.Kind, p.Order, p.Wasted, 0, at0) (0, (pos : Int), l'.take (plainN p l'.length)) = some (readAns p l (pos + (codeB p d).length)) := by
  have hs := h.shape
  have hk1 := hs.k1; have hk2 := hs.k2
  have hll := h.len
  have hn2 := h.n2; have hn1 := h.n1
  have hw1 := hs.w1; have hw2 := hs.w2; have hdep := h.d2
  unfold subframe_reader_read_K1
  unfold codeB at hd ⊢
  have done : p.Kind < 2 → ∀ j4 : Int × Int × Int × Int × (List Int) × Int × Int × (List Int) × (List Int) × (List Int), j4 = (0, (pos : Int), 0, 0, [], 0, 0, [], [], l') → subframe_reader_read_K2 (p.Kind, p.Order, p.Wasted, 0, at0) j4 = some (readAns p l (pos + ([] : List Bool).length)) := by
    intro hk j4 hj
    subst hj
    rw [read_K2_of (w := p.Wasted.toNat) (l := l) rfl (by show p.Wasted = _; omega) (by omega) hll.symm (by omega) h.shl]
    obtain ⟨a1, a2, a3⟩ := hs.lin (by omega)
    obtain ⟨b1, b2, b3, b4⟩ := hs.rice hk
    unfold readAns
    rw [a1, a2, a3, b1, b2, b3, b4]
    rfl
  rcases (show p.Kind = 0 ∨ p.Kind = 1 ∨ p.Kind = 2 ∨ p.Kind = 3 by omega) with hk | hk | hk | hk
  · rw [if_pos (by simpa using hk), if_pos (by omega)]
    have epl : plainN p l'.length = 1 := by unfold plainN; rw [if_pos hk]
    obtain ⟨x, tl, hx⟩ : ∃ x tl, l' = x :: tl := by
      cases l' with
      | nil => simp at hll; omega
      | cons x tl => exact ⟨x, tl, rfl⟩
    have hall : l' = List.replicate l.length x := by
      rw [List.eq_replicate_iff]
      refine ⟨hll, fun y hy => ?_⟩
      have := h.same hk y hy
      rw [hx] at this
      simp at this
      exact this.symm
    have ht : l'.take (plainN p l'.length) = [x] := by rw [epl, hx]; rfl
    rw [ht]
    simp only
    rw [repeat_of (by omega) hn1]
    simp only [Option.bind_some]
    exact done (by omega) _ (by rw [← hall])
  · rw [if_neg (by simp [hk]), if_neg (by simp [hk]), if_neg (by simp [hk]), if_pos (by omega)]
    have epl : plainN p l'.length = l'.length := by unfold plainN; rw [if_neg (by omega), if_pos hk]
    rw [epl, List.take_length]
    exact done (by omega) _ rfl
  · rw [if_neg (by simp [hk]), if_neg (by simp [hk]), if_pos (by simpa using hk), if_neg (by omega), if_pos hk]
    rw [if_neg (by omega), if_pos hk] at hd
    obtain ⟨a1, a2, a3⟩ := hs.lin (by omega)
    have := read_K4_of h (by omega) hR hl hb hbl hy hd hp (e4 := (pos : Int)) (at0 := at0)
    rw [a1, a2, a3] at this
    exact this
  · rw [if_neg (by simp [hk]), if_pos (by simpa using hk), if_neg (by omega), if_neg (by omega)]
    rw [if_neg (by omega), if_neg (by omega), List.append_assoc] at hd
    obtain ⟨hL, hf⟩ := h.linfit hk
    have e1 := linear_of hL hf hb (by omega) hd hp
    have e2 := drop_more hd
    have e3 := drop_len hd (by rw [bitsB_length]; exact hp)
    rw [bitsB_length] at e3
    rw [hs.coefs hk] at e1
    rw [hy]
    simp only [e1, Option.bind_some]
    rw [read_K4_of h (by omega) hR hl hb hbl hy e2 e3, List.length_append, Nat.add_assoc]
theorem read_of (h : SubOk p depth l l' d) (hR : p.Rice.Params.length < 2 ^ 20) (hl : l.length < 2 ^ 20) (hb : Bytes8 b) (hbl : b.length < 2 ^ 20) (hd : (bitsB b).drop pos = subBits p depth l' d ++ t) (hp : pos ≤ 8 * b.length) :
    subframe_Read (l.length : Int) depth ⟨⟨(pos : Int)⟩, b⟩ = some (readAns p l (pos + (subBits p depth l' d).length)) := by
  have hs := h.shape
  have hll := h.len
  have hn2 := h.n2; have hn1 := h.n1; have hd1 := h.d1; have hd2 := h.d2
  obtain ⟨hpl, hidx⟩ := h.plain
  obtain ⟨q1, q2, q3⟩ := h.deep
  have hfit := h.fit
  unfold subBits at hd ⊢
  rw [List.append_assoc, List.append_assoc, List.append_assoc] at hd
  have hhead := head_of hs hd2 hb hbl hd hp
  have e1 := drop_more hd
  have e2 := drop_len hd (by rw [bitsB_length]; exact hp)
  rw [bitsOf_length] at e1 e2
  rw [bitsB_length] at e2
  have e3 := drop_more e1
  have e4 := drop_len e1 (by rw [bitsB_length]; exact e2)
  rw [bitsB_length, Nat.add_assoc] at e4
  rw [Nat.add_assoc] at e3
  obtain ⟨e5, e6⟩ := esc_all e3 e4
  have hx1 : l'.take (plainN p l'.length) = l'.take (plainN p l'.length) := rfl
  generalize hxs : l'.take (plainN p l'.length) = xs at *
  have hxl : xs.length = plainN p l'.length := by rw [← hxs, List.length_take, Nat.min_eq_left hpl]
  have hxf : ∀ x, x ∈ xs → EscOk (depth - p.Wasted).toNat x := fun x hx => hfit x (by rw [← hxs] at hx; exact List.mem_of_mem_take hx)
  obtain ⟨c, s1, _⟩ := sizes_spec (l.length : Int) depth
  have s0 : subframe_sizes (l.length : Int) depth = some 0 := by
    unfold subframe_sizes
    rw [ite_or, ite_or, ite_or, if_neg (by simp only [Bool.or_eq_true, decide_eq_true_eq]; omega)]
  unfold subframe_Read
  rw [s0]
  simp only [Option.bind_some]
  rw [if_neg (by decide)]
  simp only [bits_Reader_At, Option.bind_some]
  have hmain : subframe_reader_read (l.length : Int) depth 0 ⟨⟨(pos : Int)⟩, b⟩ = some (readAns p l (pos + (7 + (wasteBits p.Wasted.toNat).length) + xs.length * (depth - p.Wasted).toNat + (codeB p d).length)) := by
    unfold subframe_reader_read
    rw [hhead]
    simp only [Option.bind_some]
    rw [if_neg (by simp), ← hll, hidx]
    simp only [Option.bind_some]
    generalize hat : pos + (7 + (wasteBits p.Wasted.toNat).length) = at0 at *
    refine Exists.elim (iter_for (step := subframe_reader_read_L2 (l'.length : Int) depth ⟨⟨(pos : Int)⟩, b⟩ (p.Kind, p.Order, p.Wasted, 0, (at0 : Int)) (plainN p l'.length : Int)) xs.length (fun i a => a = ((i : Int), 0, ((at0 + i * (depth - p.Wasted).toNat : Nat) : Int), xs.take i))
      (fun r => r = readAns p l (at0 + xs.length * (depth - p.Wasted).toNat + (codeB p d).length)) (by omega) (fun i a hi ha => ?_) (fun a ha => ?_) (a0 := (0, 0, (at0 : Int), [])) (by simp)) (fun r hr => by rw [← hr.2]; exact hr.1)
    · subst ha
      left
      unfold subframe_reader_read_L2
      rw [if_pos (by rw [← hxl]; simpa using hi)]
      simp only [lett, q3]
      obtain ⟨m1, m2, m3⟩ := signed_at hb (by omega) (hxf _ (List.getElem_mem hi)) (esc_next hi e3) (esc_le (by omega) e3 e4)
      rw [m1]
      simp only [Option.bind_some]
      rw [app_ok (by simp; omega)]
      simp only [Option.bind_some]
      rw [if_neg (by decide)]
      refine ⟨_, rfl, ?_⟩
      rw [W_succ (by omega), List.take_succ_eq_append_getElem hi, Nat.succ_mul, Nat.add_assoc]
    · subst ha
      unfold subframe_reader_read_L2
      rw [if_neg (by rw [← hxl]; simp)]
      have := read_K1_of h hR hl hb hbl (y3 := ⟨⟨(pos : Int)⟩, b⟩) rfl (at0 := (at0 : Int)) e5 e6
      rw [← hll] at this
      rw [List.take_length, ← hxs]
      rw [← hxs] at this
      simp only [this]
      exact ⟨_, rfl, rfl⟩
  rw [hmain]
  simp only [Option.bind_some, readAns]
  rw [if_neg (by decide)]
  refine congrArg (fun z : Nat => some (l, p.Kind, p.Order, p.Wasted, p.Linear.Precision, p.Linear.Shift, p.Linear.Coefs, p.Rice.Method, p.Rice.Order, p.Rice.Params, p.Rice.Bits, (0 : Int), (z : Int))) ?_
  simp only [List.length_append, bitsOf_length, esc_flat_len]
  omega
end
end Go.Vg

namespace Go.Vg

theorem pk_cons {bs : List Bool} (h : bs ≠ []) : pk bs = (byteNum (bs.take 8) : Int) :: pk (bs.drop 8) := by
  have h1 : 0 < bs.length := List.length_pos_iff.2 h
  apply List.ext_getElem?
  intro i
  rw [pk_get]
  cases i with
  | zero => rw [if_pos (by omega)]; simp
  | succ i =>
    rw [List.getElem?_cons_succ, pk_get, List.length_drop, List.drop_drop]
    by_cases h2 : i < (bs.length - 8 + 7) / 8
    · rw [if_pos (by omega), if_pos h2, show 8 * (i + 1) = 8 + 8 * i by omega]
    · rw [if_neg (by omega), if_neg h2]
theorem bitsOf_byte {l : List Bool} (h : l.length ≤ 8) : bitsOf 8 (byteNum l) = l ++ List.replicate (8 - l.length) false := by
  unfold byteNum
  have e : bitsOf 8 (num l * 2 ^ (8 - l.length)) = bitsOf (l.length + (8 - l.length)) (num l * 2 ^ (8 - l.length)) := by congr 1; omega
  rw [e, bitsOf_add, Nat.mul_div_cancel _ (Nat.pow_pos (by omega)), bitsOf_num]
  congr 1
  rw [← bitsOf_zero]
  have : ∀ n v, bitsOf n (v * 2 ^ n) = bitsOf n 0 := by
    intro n
    induction n with
    | zero => intro v; rfl
    | succ n ih =>
      intro v
      rw [bitsOf, bitsOf, Nat.pow_succ, ← Nat.mul_assoc, Nat.mul_div_cancel _ (by omega), ih, Nat.zero_div, Nat.mul_mod_left]
  exact this _ _
theorem bitsB_pk (bs : List Bool) : ∃ t, bitsB (pk bs) = bs ++ t := by
  have key : ∀ n (bs : List Bool), bs.length ≤ n → ∃ t, bitsB (pk bs) = bs ++ t := by
    intro n
    induction n with
    | zero => intro bs h
              obtain rfl : bs = [] := List.eq_nil_of_length_eq_zero (by omega)
              exact ⟨_, rfl⟩
    | succ n ih =>
      intro bs h
      by_cases h0 : bs = []
      · rw [h0]; exact ⟨_, rfl⟩
      have hp : 0 < bs.length := List.length_pos_iff.2 h0
      rw [pk_cons h0, bitsB_cons, Int.toNat_natCast, bitsOf_byte (by simp; omega)]
      obtain ⟨t, ht⟩ := ih (bs.drop 8) (by simp; omega)
      rcases Nat.lt_or_ge bs.length 8 with h8 | h8
      · have e : bs.drop 8 = [] := List.eq_nil_of_length_eq_zero (by simp; omega)
        rw [List.take_of_length_le (by omega), List.append_assoc]
        exact ⟨_, rfl⟩
      · rw [ht, List.length_take, Nat.min_eq_left h8, Nat.sub_self, List.replicate_zero, List.append_nil, ← List.append_assoc, List.take_append_drop]
        exact ⟨_, rfl⟩
  exact key _ bs (Nat.le_refl _)
theorem pk_bytes (bs : List Bool) : Bytes8 (pk bs) := by
  intro i x hx
  rw [pk_get] at hx
  split at hx
  · cases hx
    have hl : ((bs.drop (8 * i)).take 8).length ≤ 8 := by simp; omega
    have := num_lt ((bs.drop (8 * i)).take 8)
    generalize (bs.drop (8 * i)).take 8 = l at *
    unfold byteNum
    have h2 : num l * 2 ^ (8 - l.length) < 2 ^ l.length * 2 ^ (8 - l.length) := Nat.mul_lt_mul_of_pos_right this (Nat.pow_pos (by omega))
    rw [← Nat.pow_add, show l.length + (8 - l.length) = 8 by omega] at h2
    omega
  · cases hx

theorem append_one {v : Nat} (bs : List Bool) (hv : v < 256) (hL : bs.length < 2 ^ 39) : bits_Writer_Append [[(v : Int)]] (bs.length : Int) (pk bs) = some (((bs ++ bitsOf 8 v).length : Int), pk (bs ++ bitsOf 8 v)) := by
  unfold bits_Writer_Append
  have hput : bits_Writer_Put 8 (v : Int) (bs.length : Int) (pk bs) = _ := Put_ok (n := 8) bs (by omega) hv (by omega)
  have hin : iter (bits_Writer_Append_L2 (0, (bs.length : Int), pk bs) [(v : Int)]) (0, (bs.length : Int), pk bs) = some (.inl (1, ((bs ++ bitsOf 8 v).length : Int), pk (bs ++ bitsOf 8 v))) := by
    refine Exists.elim (iter_for (step := bits_Writer_Append_L2 (0, (bs.length : Int), pk bs) [(v : Int)]) 1 (fun i a => (i = 0 → a = (0, (bs.length : Int), pk bs)) ∧ (i = 1 → a = (1, ((bs ++ bitsOf 8 v).length : Int), pk (bs ++ bitsOf 8 v)))) (fun r => r = .inl (1, ((bs ++ bitsOf 8 v).length : Int), pk (bs ++ bitsOf 8 v))) (by omega) (fun i a hi ha => ?_) (fun a ha => ?_) ⟨fun _ => rfl, fun h => by omega⟩) (fun r hr => by rw [← hr.2]; exact hr.1)
    · obtain rfl : i = 0 := by omega
      left
      rw [ha.1 rfl]
      unfold bits_Writer_Append_L2
      rw [if_pos (by rfl)]
      have hi : idx [(v : Int)] 0 = some (v : Int) := rfl
      simp only [hi, Option.bind_some, hput]
      exact ⟨_, rfl, fun h => by omega, fun _ => rfl⟩
    · rw [ha.2 rfl]
      unfold bits_Writer_Append_L2
      rw [if_neg (by simp)]
      exact ⟨_, rfl, rfl⟩
  refine Exists.elim (iter_for (step := bits_Writer_Append_L1 [[(v : Int)]]) 1 (fun i a => (i = 0 → a = (0, (bs.length : Int), pk bs)) ∧ (i = 1 → a = (1, ((bs ++ bitsOf 8 v).length : Int), pk (bs ++ bitsOf 8 v)))) (fun r => r = (((bs ++ bitsOf 8 v).length : Int), pk (bs ++ bitsOf 8 v))) (by omega) (fun i a hi ha => ?_) (fun a ha => ?_) ⟨fun _ => rfl, fun h => by omega⟩) (fun r hr => by rw [← hr.2]; exact hr.1)
  · obtain rfl : i = 0 := by omega
    left
    rw [ha.1 rfl]
    unfold bits_Writer_Append_L1
    rw [if_pos (by rfl)]
    have hi : idx [[(v : Int)]] 0 = some [(v : Int)] := rfl
    simp only [hi, Option.bind_some, hin]
    exact ⟨_, rfl, fun h => by omega, fun _ => rfl⟩
  · rw [ha.2 rfl]
    unfold bits_Writer_Append_L1
    rw [if_neg (by simp)]
    exact ⟨_, rfl, rfl⟩

theorem few_spec (p : subframe_Plan) (l : List Int) : ∃ b, jetsamlaw07_Few p l = some b ∧ (b = true → p.Linear.Coefs.length ≤ 40 ∧ p.Rice.Params.length ≤ 100 ∧ p.Rice.Bits.length ≤ 100 ∧ l.length ≤ 100) := by
  unfold jetsamlaw07_Few
  rw [ite_or, ite_or, ite_or]
  by_cases hc : (((p.Linear.Coefs.length : Int) > 40 ∨ (p.Rice.Params.length : Int) > 100) ∨ (p.Rice.Bits.length : Int) > 100) ∨ (l.length : Int) > 100
  · rw [if_pos (by simpa only [Bool.or_eq_true, decide_eq_true_eq] using hc)]
    exact ⟨_, rfl, fun h => (nomatch h)⟩
  · rw [if_neg (by simpa only [Bool.or_eq_true, decide_eq_true_eq] using hc)]
    refine Exists.elim (iter_for (step := jetsamlaw07_Few_L1 p l) l.length (fun i a => a = (i : Int)) (fun _ => True) (by omega) (fun i a hi ha => ?_) (fun a ha => ?_) (a0 := 0) rfl) (fun r hr => ⟨r, hr.1, fun _ => by omega⟩)
    · subst ha
      unfold jetsamlaw07_Few_L1
      rw [if_pos (by simpa using hi), idx_nat hi]
      simp only [Option.bind_some]
      (repeat' split) <;> first | exact .inl ⟨_, rfl, W_succ (by omega)⟩ | exact .inr ⟨_, rfl, trivial⟩
    · subst ha
      unfold jetsamlaw07_Few_L1
      rw [if_neg (by simp)]
      exact ⟨_, rfl, trivial⟩

theorem ints_same (l : List Int) (hl : l.length < 2 ^ 40) : jetsamlaw01_Ints l l = some true := by
  unfold jetsamlaw01_Ints
  rw [if_neg (by simp)]
  refine Exists.elim (iter_for (step := jetsamlaw01_Ints_L1 l l) l.length (fun i a => a = (i : Int)) (fun r => r = true) (by omega) (fun i a hi ha => ?_) (fun a ha => ?_) (a0 := 0) rfl) (fun r hr => by rw [hr.1, hr.2])
  · subst ha
    unfold jetsamlaw01_Ints_L1
    rw [if_pos (by simpa using hi), idx_nat hi]
    simp only [Option.bind_some]
    rw [if_neg (by simp)]
    exact .inl ⟨_, rfl, W_succ (by omega)⟩
  · subst ha
    unfold jetsamlaw01_Ints_L1
    rw [if_neg (by simp)]
    exact ⟨_, rfl, rfl⟩

theorem rless_total {w : Nat} {l : List Int} (hw : w ≤ 33) (hl : l.length < 2 ^ 40) : ∃ r, jetsamref07_Less (w : Int) l = some r ∧ r.1.length ≤ l.length := by
  unfold jetsamref07_Less
  have hp : (0 : Nat) < 2 ^ w := Nat.pow_pos (by omega)
  refine iter_for (step := jetsamref07_Less_L1 (w : Int) l) l.length (fun i a => a.1 = (i : Int) ∧ a.2.length = i) (fun r => r.1.length ≤ l.length) (by omega) (fun i a hi ha => ?_) (fun a ha => ?_) (a0 := (0, [])) ⟨rfl, rfl⟩
  · obtain ⟨h1, h2⟩ := ha
    unfold jetsamref07_Less_L1
    have hne : ((((2 ^ w : Nat) : Int)) != 0) = true := by rw [bne_iff_ne]; omega
    rw [h1, if_pos (by simpa using hi), idx_nat hi, pow_shl (by omega)]
    simp only [Option.bind_some]
    rw [need_ok (by simp), need_ok hne, need_ok (by simp), need_ok hne]
    split
    · exact .inr ⟨_, rfl, Nat.zero_le _⟩
    · rw [app_ok (by simp; omega)]
      exact .inl ⟨_, rfl, W_succ (by omega), by simp [h2]⟩
  · obtain ⟨h1, h2⟩ := ha
    unfold jetsamref07_Less_L1
    rw [h1, if_neg (by simp)]
    exact ⟨_, rfl, by simp [jetsamref07_Less_K1, h2]⟩
theorem rcheck6_total (q : jetsamref06_Linear) : ∃ c, jetsamref06_Check q = some c ∧ (c = 0 → q.Coefs.length ≤ 32 ∧ 0 ≤ q.Shift ∧ q.Shift ≤ 15) := by
  unfold jetsamref06_Check
  rw [ite_or, ite_or, ite_or, ite_or]
  by_cases hc : ((((q.Coefs.length : Int) > 32 ∨ q.Precision < 1) ∨ q.Precision > 15) ∨ q.Shift < 0) ∨ q.Shift > 15
  · rw [if_pos (by simpa only [Bool.or_eq_true, decide_eq_true_eq] using hc)]
    exact ⟨_, rfl, fun h => (nomatch h)⟩
  · rw [if_neg (by simpa only [Bool.or_eq_true, decide_eq_true_eq] using hc)]
    have e1 : W (q.Precision - 1) = ((q.Precision.toNat - 1 : Nat) : Int) := by rw [W_id (by omega) (by omega)]; omega
    refine Exists.elim (iter_for (step := jetsamref06_Check_L1 q) q.Coefs.length (fun i a => a = (i : Int)) (fun _ => True) (by omega) (fun i a hi ha => ?_) (fun a ha => ?_) (a0 := 0) rfl) (fun r hr => ⟨r, hr.1, fun _ => by omega⟩)
    · subst ha
      unfold jetsamref06_Check_L1 jetsamref06_Check_K2
      rw [if_pos (by simpa using hi), idx_nat hi, e1]
      simp only [Option.bind_some]
      rw [need_ok (by simp), need_ok (by simp)]
      (repeat' split) <;> first | exact .inl ⟨_, rfl, W_succ (by omega)⟩ | exact .inr ⟨_, rfl, trivial⟩
    · subst ha
      unfold jetsamref06_Check_L1
      rw [if_neg (by simp)]
      exact ⟨_, rfl, trivial⟩
theorem rtold_total {q : jetsamref06_Linear} {l : List Int} (hc : q.Coefs.length ≤ l.length) (hc2 : q.Coefs.length ≤ 32) (hl : l.length < 2 ^ 40) (h1 : 0 ≤ q.Shift) (h2 : q.Shift ≤ 15) : ∃ t, jetsamref06_Told q l = some t := by
  unfold jetsamref06_Told
  obtain ⟨s, hs⟩ := Int.eq_ofNat_of_zero_le h1
  have hne : ((((2 ^ s : Nat) : Int)) != 0) = true := by
    have hp : (0 : Nat) < 2 ^ s := Nat.pow_pos (by omega)
    rw [bne_iff_ne]; omega
  have hK : ∀ j, ∃ t, jetsamref06_Told_K1 q j = some t := by
    intro j
    unfold jetsamref06_Told_K1
    rw [hs, pow_shl (by omega), need_ok (by simp), need_ok hne]
    split <;> exact ⟨_, rfl⟩
  refine Exists.elim (iter_for (step := jetsamref06_Told_L1 q l) q.Coefs.length (fun i a => a.2 = (i : Int)) (fun _ => True) (by omega) (fun i a hi ha => ?_) (fun a ha => ?_) (a0 := (0, 0)) rfl) (fun r hr => ⟨r, hr.1⟩)
  · unfold jetsamref06_Told_L1
    have e : W ((W ((l.length : Int) - 1)) - (i : Int)) = ((l.length - 1 - i : Nat) : Int) := by rw [W_id (x := (l.length : Int) - 1) (by omega) (by omega), W_id (by omega) (by omega)]; omega
    rw [ha, if_pos (by simpa using hi), idx_nat hi, e, idx_nat (l := l) (i := l.length - 1 - i) (by omega)]
    exact .inl ⟨_, rfl, W_succ (by omega)⟩
  · unfold jetsamref06_Told_L1
    rw [ha, if_neg (by simp)]
    obtain ⟨t, ht⟩ := hK a.1
    rw [ht]
    exact ⟨_, rfl, trivial⟩
theorem rresidual_total {q : jetsamref06_Linear} {l : List Int} (hl : l.length < 2 ^ 40) : ∃ r, jetsamref06_Residual q l = some r ∧ r.1.length ≤ l.length := by
  unfold jetsamref06_Residual
  obtain ⟨c, h0, h0'⟩ := rcheck6_total q
  rw [h0]
  simp only [Option.bind_some]
  rcases (Decidable.em (c = 0)).symm with hc | hc
  · rw [if_pos (by simpa using hc)]
    exact ⟨_, rfl, Nat.zero_le _⟩
  rw [if_neg (by simpa using hc)]
  obtain ⟨q1, q2, q3⟩ := h0' hc
  split
  · exact ⟨_, rfl, Nat.zero_le _⟩
  · rename_i hlen
    rw [decide_eq_true_eq] at hlen
    refine iter_for (step := jetsamref06_Residual_L1 q l) l.length (fun i a => a.1 = (i : Int) ∧ a.2.length ≤ i) (fun r => r.1.length ≤ l.length) (by omega) (fun i a hi ha => ?_) (fun a ha => ?_) (a0 := (0, [])) ⟨rfl, Nat.zero_le _⟩
    · obtain ⟨h1, h2⟩ := ha
      unfold jetsamref06_Residual_L1 jetsamref06_Residual_K2 jetsamref06_may
      rw [h1, if_pos (by simpa using hi), idx_nat hi]
      simp only [Option.bind_some]
      generalize (if decide (l[i] ≥ -4294967296) = true then decide (l[i] < 4294967296) else false) = mm
      cases mm with
      | false => exact .inr ⟨_, if_pos rfl, Nat.zero_le _⟩
      | true =>
        rw [if_neg (by decide)]
        split
        · rename_i hge
          rw [decide_eq_true_eq] at hge
          have hsub : sub l 0 (i : Int) = some ((l.drop 0).take (i - 0)) := sub_ok (i := 0) (by omega) (by omega)
          obtain ⟨t, ht⟩ := rtold_total (q := q) (l := (l.drop 0).take (i - 0)) (by simp; omega) q1 (by simp; omega) q2 q3
          rw [hsub]
          simp only [Option.bind_some, ht]
          rw [app_ok (by simp; omega)]
          exact .inl ⟨_, rfl, W_succ (by omega), by simp; omega⟩
        · exact .inl ⟨_, rfl, W_succ (by omega), by simp; omega⟩
    · obtain ⟨h1, h2⟩ := ha
      unfold jetsamref06_Residual_L1
      rw [h1, if_neg (by simp)]
      exact ⟨_, rfl, by simp [jetsamref06_Residual_K1]; omega⟩
theorem long_total (p : subframe_Plan) (depth : Int) (l : List Int) (hl : l.length < 2 ^ 40) : ∃ b, jetsamlaw07_long p depth l = some b := by
  have hK : ∀ j, 0 ≤ p.Wasted → p.Wasted ≤ 33 → ∃ b, jetsamlaw07_long_K1 p l j = some b := by
    intro j h1 h2
    unfold jetsamlaw07_long_K1
    obtain ⟨w, hw⟩ := Int.eq_ofNat_of_zero_le h1
    rw [hw]
    obtain ⟨r, hr, hr2⟩ := rless_total (w := w) (l := l) (by omega) hl
    rw [hr]
    simp only [Option.bind_some]
    obtain ⟨d, hd, hd2⟩ := rresidual_total (q := ⟨j.1, j.2.1, j.2.2⟩) (l := r.1) (by omega)
    rw [hd]
    simp only [Option.bind_some]
    generalize (if (!r.2) = true then true else d.2 != 0) = cond
    cases cond with
    | true => exact ⟨_, if_pos rfl⟩
    | false =>
      rw [if_neg (by decide)]
      refine Exists.elim (iter_for (step := jetsamlaw07_long_L1 d) d.1.length (fun i a => a = (i : Int)) (fun _ => True) (by omega) (fun i a hi ha => ?_) (fun a ha => ?_) (a0 := 0) rfl) (fun r hr => ⟨r, hr.1⟩)
      · subst ha
        unfold jetsamlaw07_long_L1
        rw [if_pos (by simpa using hi), idx_nat hi]
        simp only [Option.bind_some]
        (repeat' split) <;> first | exact .inl ⟨_, rfl, W_succ (by omega)⟩ | exact .inr ⟨_, rfl, trivial⟩
      · subst ha
        unfold jetsamlaw07_long_L1
        rw [if_neg (by simp)]
        exact ⟨_, rfl, trivial⟩
  unfold jetsamlaw07_long
  rw [ite_or, ite_or, ite_or]
  split
  · exact ⟨_, rfl⟩
  · rename_i hc
    simp only [Bool.or_eq_true, decide_eq_true_eq] at hc
    simp only [jetsamlaw06_Plain, Option.bind_some]
    split
    · rw [ite_or]
      split
      · exact ⟨_, rfl⟩
      · rename_i h4
        simp only [Bool.or_eq_true, decide_eq_true_eq] at h4
        have : ∃ q, jetsamref07_Coefs p.Order = some q := by
          rcases (show p.Order = 0 ∨ p.Order = 1 ∨ p.Order = 2 ∨ p.Order = 3 ∨ p.Order = 4 by omega) with h | h | h | h | h <;> rw [h] <;> exact ⟨_, rfl⟩
        obtain ⟨q, hq⟩ := this
        rw [hq]
        exact hK _ (by omega) (by omega)
    · exact hK _ (by omega) (by omega)
end Go.Vg

namespace Go.Vg

theorem awake_ok : jetsamlaw07_awake = some true := by kernel_rfl
theorem same_refl (p : subframe_Plan) (h1 : p.Linear.Coefs.length < 2 ^ 40) (h2 : p.Rice.Params.length < 2 ^ 40) (h3 : p.Rice.Bits.length < 2 ^ 40) : jetsamlaw07_Same p p = some true := by
  unfold jetsamlaw07_Same jetsamlaw05_Same
  simp only [beq_self_eq_true, if_true, ints_same _ h1, ints_same _ h2, ints_same _ h3, Option.bind_some]
theorem clone1 {l : List Int} (h : l.length < 2 ^ 40) : slices_Clone_sbyte_byte l = some l := by
  unfold slices_Clone_sbyte_byte
  rw [app_ok (by simp; omega)]; rfl
theorem clone2 {l : List Int} (h : l.length < 2 ^ 40) : slices_Clone_sbyte_byte_x2 l = some l := by
  unfold slices_Clone_sbyte_byte_x2
  rw [app_ok (by simp; omega)]; rfl
theorem back_K1 {p : subframe_Plan} {depth : Int} {two : Arr2 (List Int)} {l' d : List Int} {r7 : Int × Int × List Int} (h : SubOk p depth two.a0 l' d) (hc : p.Linear.Coefs.length ≤ 40) (hR : p.Rice.Params.length ≤ 100) (hB : p.Rice.Bits.length ≤ 100) (hl : two.a0.length ≤ 100)
    (h7 : r7.2.1 = ((subBits p depth l' d).length : Int)) (t : List Bool) (ht : t.length ≤ 160) :
    jetsamlaw07_SubframeBack_K1 p depth two r7 (((subBits p depth l' d ++ t).length : Int), pk (subBits p depth l' d ++ t)) = some true := by
  have hlen := sub_len h (by omega)
  have hpl : (pk (subBits p depth l' d ++ t)).length < 2 ^ 20 := by
    rw [pk_length, List.length_append]; omega
  unfold jetsamlaw07_SubframeBack_K1 bits_Writer_Bytes bits_NewReader
  simp only [clone1 (l := pk (subBits p depth l' d ++ t)) (by omega), clone2 (l := pk (subBits p depth l' d ++ t)) (by omega), Option.bind_some, lett]
  obtain ⟨t2, ht2⟩ := bitsB_pk (subBits p depth l' d ++ t)
  have hr := read_of (pos := 0) (b := pk (subBits p depth l' d ++ t)) (t := t ++ t2) h (by omega) (by omega) (pk_bytes _) hpl (by rw [List.drop_zero, ht2, List.append_assoc]) (Nat.zero_le _)
  have hr' : subframe_Read (two.a0.length : Int) depth ⟨⟨0⟩, pk (subBits p depth l' d ++ t)⟩ = _ := hr
  rw [hr']
  simp only [Option.bind_some, readAns]
  rw [if_pos (by rfl), ints_same _ (by omega)]
  simp only [Option.bind_some, if_true, eta p rfl rfl rfl rfl rfl rfl rfl rfl rfl rfl, same_refl p (show p.Linear.Coefs.length < 2 ^ 40 by omega) (by omega) (by omega), bits_Reader_At]
  rw [if_pos (by rw [h7, Nat.zero_add]; simp), awake_ok]
  rfl
theorem wrap8 (x : Int) : ∃ v : Nat, v < 256 ∧ IntKind.u8.wrap x = (v : Int) := by
  have h := wrap_has (k := .u8) x
  rw [has_iff] at h
  simp only [lo, hi] at h
  exact ⟨(IntKind.u8.wrap x).toNat, by omega, by omega⟩
theorem law_SubframeBack (p : subframe_Plan) (depth : Int) (two : Arr2 (List Int)) : jetsamlaw07_SubframeBack p depth two = some true := by
  unfold jetsamlaw07_SubframeBack
  obtain ⟨b, h1, h1'⟩ := few_spec p two.a0
  rw [h1]
  simp only [Option.bind_some, awake_ok]
  cases b with
  | false => exact if_pos rfl
  | true =>
  rw [if_neg (by decide)]
  obtain ⟨f1, f2, f3, f4⟩ := h1' rfl
  by_cases h20 : (two.a1.length : Int) > 20
  · rw [if_pos (by simpa using h20)]
  rw [if_neg (by simpa using h20)]
  obtain ⟨b, h2⟩ := long_total p depth two.a0 (by omega)
  rw [h2]
  simp only [Option.bind_some]
  cases b with
  | true => exact if_pos rfl
  | false =>
  rw [if_neg (by decide)]
  simp only [bits_NewWriter, Option.bind_some]
  obtain ⟨c, l', d, w1, w2⟩ := write_spec (p := p) (depth := depth) (l := two.a0) (by omega) (by omega) [] (by simp)
  have e0 : pk [] = [] := rfl
  rw [e0] at w1 w2
  rcases (Decidable.em (c = 0)).symm with hc | hc
  · have hw : subframe_Write p depth two.a0 0 [] = some (c, 0, []) := w1 hc
    rw [hw]
    simp only [Option.bind_some]
    rw [if_pos (by simpa using hc)]
    simp only [bits_Writer_Len, Option.bind_some]
    exact if_pos rfl
  · obtain ⟨hs, hw0⟩ := w2 hc
    have hw : subframe_Write p depth two.a0 0 [] = some (0, ((subBits p depth l' d).length : Int), pk (subBits p depth l' d)) := hw0
    rw [hw]
    simp only [Option.bind_some]
    rw [if_neg (by decide)]
    simp only [bits_Writer_Len, Option.bind_some]
    have hlen := sub_len hs (by omega)
    refine Exists.elim (iter_for (step := jetsamlaw07_SubframeBack_L1 p depth two (0, ((subBits p depth l' d).length : Int), pk (subBits p depth l' d))) two.a1.length (fun i a => ∃ t : List Bool, t.length = 8 * i ∧ a = ((i : Int), ((subBits p depth l' d ++ t).length : Int), pk (subBits p depth l' d ++ t))) (fun r => r = true) (by omega) (fun i a hi ha => ?_) (fun a ha => ?_) (a0 := (0, ((subBits p depth l' d).length : Int), pk (subBits p depth l' d))) ⟨[], rfl, by simp⟩) (fun r hr => by rw [← hr.2]; exact hr.1)
    · obtain ⟨t, ht, rfl⟩ := ha
      left
      unfold jetsamlaw07_SubframeBack_L1
      rw [if_pos (by simpa using hi), idx_nat hi]
      obtain ⟨v, hv, e⟩ := wrap8 two.a1[i]
      simp only [Option.bind_some, lett, e]
      rw [append_one _ hv (by rw [List.length_append]; omega)]
      simp only [Option.bind_some]
      refine ⟨_, rfl, t ++ bitsOf 8 v, by rw [List.length_append, bitsOf_length]; omega, ?_⟩
      rw [W_succ (by omega), List.append_assoc]
    · obtain ⟨t, ht, rfl⟩ := ha
      unfold jetsamlaw07_SubframeBack_L1
      rw [if_neg (by simp)]
      have := back_K1 (r7 := (0, ((subBits p depth l' d).length : Int), pk (subBits p depth l' d))) hs f1 f2 f3 f4 rfl t (by omega)
      simp only [this]
      exact ⟨_, rfl, rfl⟩
end Go.Vg
