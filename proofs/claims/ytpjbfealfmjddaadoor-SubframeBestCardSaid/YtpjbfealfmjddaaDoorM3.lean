/- Plans checked, sizes, and what all have in common: the plain reckoning. -/
import Derived.Test.YtpjbfealfmjddaaDoorM2
import Derived.ProofKit
set_option maxRecDepth 4000
set_option linter.all false
set_option linter.unusedVariables false
set_option linter.unusedSimpArgs false
namespace Go.Vg

theorem fixed_some {n : Nat} (h : n ≤ 4) : ∃ q, predict_Fixed (n : Int) = some (q, 0) ∧ q.Coefs.length = n := by
  rcases (show n = 0 ∨ n = 1 ∨ n = 2 ∨ n = 3 ∨ n = 4 by omega) with rfl | rfl | rfl | rfl | rfl
  · exact ⟨⟨4, 0, []⟩, rfl, rfl⟩
  · exact ⟨⟨4, 0, [1]⟩, rfl, rfl⟩
  · exact ⟨⟨4, 0, [2, -1]⟩, rfl, rfl⟩
  · exact ⟨⟨4, 0, [3, -3, 1]⟩, rfl, rfl⟩
  · exact ⟨⟨4, 0, [4, -6, 4, -1]⟩, rfl, rfl⟩

/-- What subframe.shape tells where its code is 0. -/
structure ShapeOk (p : subframe_Plan) (depth : Int) : Prop where
  k1 : 0 ≤ p.Kind
  k2 : p.Kind ≤ 3
  w1 : 0 ≤ p.Wasted
  w2 : p.Wasted < depth
  o1 : 0 ≤ p.Order
  o2 : p.Order ≤ 32
  ofix : p.Kind = 2 → p.Order ≤ 4
  oplain : p.Kind < 2 → p.Order = 0
  lin : p.Kind < 3 → p.Linear.Precision = 0 ∧ p.Linear.Shift = 0 ∧ p.Linear.Coefs = []
  rice : p.Kind < 2 → p.Rice.Method = 0 ∧ p.Rice.Order = 0 ∧ p.Rice.Params = [] ∧ p.Rice.Bits = []
  coefs : p.Kind = 3 → (p.Linear.Coefs.length : Int) = p.Order
  olin : p.Kind = 3 → 1 ≤ p.Order
theorem len0 {l : List Int} : ((l.length : Int) == 0) = true ↔ l = [] := by
  rw [beq_iff_eq]
  constructor
  · intro h; exact List.eq_nil_of_length_eq_zero (by omega)
  · intro h; subst h; rfl
theorem shape_K1 (p : subframe_Plan) (depth lo hi : Int) : ∃ c, subframe_shape_K1 p depth (lo, hi) = some c ∧ (c = 0 → 0 ≤ p.Kind ∧ p.Kind ≤ 3 ∧ 0 ≤ p.Wasted ∧ p.Wasted < depth ∧ lo ≤ p.Order ∧ p.Order ≤ hi ∧
    (p.Kind < 3 → p.Linear.Precision = 0 ∧ p.Linear.Shift = 0 ∧ p.Linear.Coefs = []) ∧ (p.Kind < 2 → p.Rice.Method = 0 ∧ p.Rice.Order = 0 ∧ p.Rice.Params = [] ∧ p.Rice.Bits = []) ∧ (p.Kind = 3 → (p.Linear.Coefs.length : Int) = p.Order)) := by
  unfold subframe_shape_K1
  simp only [ite_or, ite_and]
  split
  · exact ⟨_, rfl, fun h => (nomatch h)⟩
  · rename_i h1
    split
    · exact ⟨_, rfl, fun h => (nomatch h)⟩
    · rename_i h2
      refine ⟨_, rfl, fun _ => ?_⟩
      simp only [Bool.or_eq_true, Bool.and_eq_true, decide_eq_true_eq, not_or, not_and, Bool.not_eq_true', Bool.not_eq_false, bne_iff_ne, ne_eq, Decidable.not_not] at h1 h2
      refine ⟨by omega, by omega, by omega, by omega, by omega, by omega, fun hk => ?_, fun hk => ?_, fun hk => h2.2 (by rw [hk]; rfl)⟩
      · have := h2.1.1 hk
        simp only [Bool.and_eq_true, beq_iff_eq] at this
        exact ⟨this.1.1, this.1.2, List.eq_nil_of_length_eq_zero (by omega)⟩
      · have := h2.1.2 hk
        simp only [Bool.and_eq_true, beq_iff_eq] at this
        exact ⟨this.1.1.1, this.1.1.2, List.eq_nil_of_length_eq_zero (by omega), List.eq_nil_of_length_eq_zero (by omega)⟩
theorem shape_spec (p : subframe_Plan) (depth : Int) : ∃ c, subframe_shape p depth = some c ∧ (c = 0 → ShapeOk p depth) := by
  unfold subframe_shape
  by_cases h2 : p.Kind = 2
  · rw [if_pos (by simpa using h2)]
    obtain ⟨c, h, h'⟩ := shape_K1 p depth 0 4
    refine ⟨c, h, fun hc => ?_⟩
    obtain ⟨a1, a2, a3, a4, a5, a6, a7, a8, a9⟩ := h' hc
    exact ⟨a1, a2, a3, a4, a5, by omega, fun _ => a6, fun _ => by omega, a7, a8, a9, fun _ => by omega⟩
  · rw [if_neg (by simpa using h2)]
    by_cases h3 : p.Kind = 3
    · rw [if_pos (by simpa using h3)]
      obtain ⟨c, h, h'⟩ := shape_K1 p depth 1 32
      refine ⟨c, h, fun hc => ?_⟩
      obtain ⟨a1, a2, a3, a4, a5, a6, a7, a8, a9⟩ := h' hc
      exact ⟨a1, a2, a3, a4, by omega, a6, fun _ => by omega, fun _ => by omega, a7, a8, a9, fun _ => a5⟩
    · rw [if_neg (by simpa using h3)]
      obtain ⟨c, h, h'⟩ := shape_K1 p depth 0 0
      refine ⟨c, h, fun hc => ?_⟩
      obtain ⟨a1, a2, a3, a4, a5, a6, a7, a8, a9⟩ := h' hc
      exact ⟨a1, a2, a3, a4, by omega, by omega, fun _ => by omega, fun _ => by omega, a7, a8, a9, fun _ => by omega⟩
theorem sizes_spec (n d : Int) : ∃ c, subframe_sizes n d = some c ∧ (c = 0 → 4 ≤ d ∧ d ≤ 33 ∧ 1 ≤ n ∧ n ≤ 65535) := by
  unfold subframe_sizes
  simp only [ite_or]
  split
  · exact ⟨_, rfl, fun h => (nomatch h)⟩
  · rename_i h
    simp only [Bool.or_eq_true, decide_eq_true_eq] at h
    exact ⟨_, rfl, fun _ => ⟨by omega, by omega, by omega, by omega⟩⟩

/-- What is so of a coded channel: its prediction, what is told of it, and how that is coded. -/
structure CodedOk (p : subframe_Plan) (l' d : List Int) (q : predict_Linear) (z : Int) : Prop where
  how : subframe_how p = some q
  len : (q.Coefs.length : Int) = p.Order
  lin : LinOk q
  may : MayP l'
  le : q.Coefs.length ≤ l'.length
  dlen : d.length = l'.length - q.Coefs.length
  told : ∀ i x, i + q.Coefs.length < l'.length → l'[q.Coefs.length + i]? = some x → ∃ t, predict_Linear_told q (l'.take (q.Coefs.length + i)) = some t ∧ d[i]? = some (W (x - t))
  size : rice_Size p.Rice p.Order d = some (z, 0)
/-- What subframe.check tells where its code is 0. -/
structure SubOk (p : subframe_Plan) (depth : Int) (l l' d : List Int) : Prop where
  d1 : 4 ≤ depth
  d2 : depth ≤ 33
  n1 : 1 ≤ l.length
  n2 : l.length ≤ 65535
  shape : ShapeOk p depth
  less : l' = l.map (· / 2 ^ p.Wasted.toNat)
  back : ∀ x, x ∈ l → x = x / 2 ^ p.Wasted.toNat * 2 ^ p.Wasted.toNat
  fits : FitsP depth.toNat l
  same : p.Kind = 0 → ∀ x, x ∈ l' → l'[0]? = some x
  coded : 2 ≤ p.Kind → ∃ q z, CodedOk p l' d q z
theorem how_some {p : subframe_Plan} {depth : Int} (h : ShapeOk p depth) (hk : 2 ≤ p.Kind) : ∃ q, subframe_how p = some q ∧ (q.Coefs.length : Int) = p.Order := by
  unfold subframe_how
  have := h.k2
  by_cases h2 : p.Kind = 2
  · rw [if_pos (by simpa using h2)]
    obtain ⟨n, hn⟩ := Int.eq_ofNat_of_zero_le h.o1
    have := h.ofix h2
    obtain ⟨q, hq, hl⟩ := fixed_some (n := n) (by omega)
    rw [hn, hq]
    exact ⟨q, rfl, by omega⟩
  · rw [if_neg (by simpa using h2)]
    exact ⟨_, rfl, h.coefs (by omega)⟩
theorem check_spec (p : subframe_Plan) (depth : Int) (l : List Int) (hl : l.length < 2 ^ 40) (hp : p.Rice.Params.length < 2 ^ 40) : ∃ l' d c, subframe_check p depth l = some (l', d, c) ∧ (c = 0 → SubOk p depth l l' d) := by
  unfold subframe_check
  obtain ⟨c1, a1, a1'⟩ := sizes_spec (l.length : Int) depth
  rw [a1]
  simp only [Option.bind_some]
  rcases (Decidable.em (c1 = 0)).symm with hc | hc
  · rw [if_pos (by simpa using hc)]
    exact ⟨_, _, _, rfl, fun h => absurd h hc⟩
  rw [if_neg (by simpa using hc)]
  obtain ⟨q1, q2, q3, q4⟩ := a1' hc
  obtain ⟨c2, a2, a2'⟩ := shape_spec p depth
  rw [a2]
  simp only [Option.bind_some]
  rcases (Decidable.em (c2 = 0)).symm with hc2 | hc2
  · rw [if_pos (by simpa using hc2)]
    exact ⟨_, _, _, rfl, fun h => absurd h hc2⟩
  rw [if_neg (by simpa using hc2)]
  have hs := a2' hc2
  obtain ⟨w, hw⟩ := Int.eq_ofNat_of_zero_le hs.w1
  have hw2 := hs.w2
  obtain ⟨l', b, a3, a3', a3''⟩ := less_spec (n := w) (l := l) (by omega) hl
  rw [← hw] at a3
  rw [a3]
  simp only [Option.bind_some]
  cases b with
  | false => exact ⟨_, _, _, if_pos (by decide), fun h => (nomatch h)⟩
  | true =>
  rw [if_neg (by decide)]
  obtain ⟨hless, hback⟩ := a3' rfl
  obtain ⟨n, hn⟩ := Int.eq_ofNat_of_zero_le (show 0 ≤ depth by omega)
  obtain ⟨b, a4, a4'⟩ := fits_spec (n := n) (l := l) (by omega) (by omega) hl
  rw [← hn] at a4
  rw [a4]
  simp only [Option.bind_some]
  cases b with
  | false => exact ⟨_, _, _, if_pos (by decide), fun h => (nomatch h)⟩
  | true =>
  rw [if_neg (by decide)]
  have hfit := a4'.1 rfl
  have hll : l'.length = l.length := by rw [hless, List.length_map]
  have hwn : p.Wasted.toNat = w := by omega
  have hnn : depth.toNat = n := by omega
  have ok : (p.Kind = 0 → ∀ x, x ∈ l' → l'[0]? = some x) → ∀ d, (2 ≤ p.Kind → ∃ q z, CodedOk p l' d q z) → SubOk p depth l l' d := fun h1 d h2 =>
    ⟨q1, q2, by omega, by omega, hs, by rw [hwn]; exact hless, by rw [hwn]; exact hback, by rw [hnn]; exact hfit, h1, h2⟩
  by_cases hk0 : p.Kind = 0
  · rw [if_pos (by simpa using hk0)]
    obtain ⟨b, a5, a5'⟩ := same_spec (l := l') (by omega) (by omega)
    rw [a5]
    simp only [Option.bind_some]
    cases b with
    | false => exact ⟨_, _, _, if_pos (by decide), fun h => (nomatch h)⟩
    | true =>
      rw [if_neg (by decide), if_pos (by rw [decide_eq_true_eq]; omega)]
      refine ⟨_, _, _, rfl, fun _ => ok (fun _ x hx => ?_) _ (fun h => by omega)⟩
      rw [List.getElem?_eq_getElem (by omega), a5'.1 rfl x hx]
  rw [if_neg (by simpa using hk0)]
  by_cases hk1 : p.Kind < 2
  · rw [if_pos (by simpa using hk1)]
    exact ⟨_, _, _, rfl, fun _ => ok (fun h => absurd h hk0) _ (fun h => by omega)⟩
  rw [if_neg (by simpa using hk1)]
  obtain ⟨q, a6, a6'⟩ := how_some hs (by omega)
  rw [a6]
  simp only [Option.bind_some]
  have ho2 := hs.o2
  have ho1 := hs.o1
  obtain ⟨c7, a7, a7'⟩ := pcheck_spec q (by omega)
  rw [a7]
  simp only [Option.bind_some]
  rcases (Decidable.em (c7 = 0)).symm with hc7 | hc7
  · rw [if_pos (by simpa using hc7)]
    exact ⟨_, _, _, rfl, fun h => absurd h hc7⟩
  rw [if_neg (by simpa using hc7)]
  obtain ⟨c8, a8, a8'⟩ := rcheck_spec p.Rice (l'.length : Int) p.Order hp
  rw [a8]
  simp only [Option.bind_some]
  rcases (Decidable.em (c8 = 0)).symm with hc8 | hc8
  · rw [if_pos (by simpa using hc8)]
    exact ⟨_, _, _, rfl, fun h => absurd h hc8⟩
  rw [if_neg (by simpa using hc8)]
  obtain ⟨d, c9, a9, a9', _⟩ := residual_spec (p := q) (l := l') (by omega) (by omega)
  rw [a9]
  simp only [Option.bind_some]
  unfold subframe_check_K1
  rcases (Decidable.em (c9 = 0)).symm with hc9 | hc9
  · rw [if_neg (by simpa using hc9)]
    exact ⟨_, _, _, rfl, fun h => absurd h hc9⟩
  rw [if_pos (by simpa using hc9)]
  obtain ⟨g1, g2, g3, g4, g5⟩ := a9' hc9
  obtain ⟨o, ho⟩ := Int.eq_ofNat_of_zero_le hs.o1
  obtain ⟨z, c10, a10, a10'⟩ := size_spec p.Rice o d (by omega) (by omega) hp
  rw [← ho] at a10
  rw [a10]
  simp only [Option.bind_some]
  refine ⟨_, _, _, rfl, fun hc10 => ok (fun h => absurd h hk0) _ fun _ => ⟨q, z, a6, a6', g1, g3, g2, g4, g5, ?_⟩⟩
  rw [a10]
  exact congrArg (fun c => some (z, c)) hc10
end Go.Vg

namespace Go.Vg

theorem ints_same (l : List Int) (hl : l.length < 2 ^ 40) : jetsamlaw01_Ints l l = some true := by
  unfold jetsamlaw01_Ints
  rw [if_neg (by simp)]
  refine Exists.elim (iter_for (step := jetsamlaw01_Ints_L1 l l) l.length (fun i a => a = (i : Int)) (fun r => r = true) (by omega) (fun i a hi ha => ?_) (fun a ha => ?_) (a0 := 0) rfl) (fun r hr => by rw [hr.1, hr.2])
  · subst ha
    unfold jetsamlaw01_Ints_L1
    rw [if_pos (by simpa using hi), idx_nat hi]
    simp only [Option.bind_some]
    rw [if_neg (by simp)]
    exact .inl ⟨_, rfl, W_succ (by omega)⟩
  · subst ha
    unfold jetsamlaw01_Ints_L1
    rw [if_neg (by simp)]
    exact ⟨_, rfl, rfl⟩

theorem awake_ok : jetsamlaw07_awake = some true := by kernel_rfl
theorem same_refl (p : subframe_Plan) (h1 : p.Linear.Coefs.length < 2 ^ 40) (h2 : p.Rice.Params.length < 2 ^ 40) (h3 : p.Rice.Bits.length < 2 ^ 40) : jetsamlaw07_Same p p = some true := by
  unfold jetsamlaw07_Same jetsamlaw05_Same
  simp only [beq_self_eq_true, if_true, ints_same _ h1, ints_same _ h2, ints_same _ h3, Option.bind_some]
end Go.Vg

namespace Go.Vg

/-- May a residual be in a part? -/
def OneOk (par n v : Int) : Prop := -2147483648 < v ∧ v < 2147483648 ∧ (par = -1 → ∃ w, rice_width v = some w ∧ w ≤ n) ∧ (0 ≤ par → foldN v / 2 ^ par.toNat ≤ 65536)
/-- How many bits it has there. -/
def oneLen (par n v : Int) : Int := if par = -1 then n else ((foldN v / 2 ^ par.toNat + 1 + par.toNat : Nat) : Int)
theorem one_spec {v par n : Int} (hp : par = -1 ∨ 0 ≤ par ∧ par ≤ 31) : ∃ c b, rice_one v par n = some (c, b) ∧ (b = true ↔ OneOk par n v) ∧ (b = true → c = oneLen par n v) := by
  unfold rice_one
  by_cases hv : -2147483648 < v ∧ v < 2147483648
  · rw [fold_spec (by omega) (by omega)]
    have e1 : decide (-2147483648 < v) = true := decide_eq_true hv.1
    have e2 : decide (v < 2147483648) = true := decide_eq_true hv.2
    simp only [Option.bind_some, e1, e2]
    rw [if_neg (by decide)]
    rcases hp with rfl | ⟨h0, h31⟩
    · rw [if_pos (by rfl)]
      obtain ⟨w, hw, _⟩ := width_spec hv.1 hv.2
      rw [hw]
      refine ⟨_, _, rfl, ?_, fun _ => rfl⟩
      rw [decide_eq_true_eq]
      exact ⟨fun h => ⟨hv.1, hv.2, fun _ => ⟨w, hw, h⟩, fun h => by omega⟩, fun h => by
        obtain ⟨w', h1, h2⟩ := h.2.2.1 rfl
        rw [hw] at h1; cases h1; exact h2⟩
    · obtain ⟨k, rfl⟩ := Int.eq_ofNat_of_zero_le h0
      rw [if_neg (by simp), need_ok (by simp), need_ok (by simp), shr_nat (by omega)]
      have hlt : foldN v < 4294967296 := by unfold foldN; split <;> omega
      have hle : foldN v / 2 ^ k ≤ foldN v := Nat.div_le_self _ _
      refine ⟨_, _, rfl, ?_, fun _ => ?_⟩
      · rw [decide_eq_true_eq]
        unfold OneOk
        simp only [Int.toNat_natCast]
        exact ⟨fun h => ⟨hv.1, hv.2, fun h => by omega, fun _ => by omega⟩, fun h => by have := h.2.2.2 (by omega); omega⟩
      · unfold oneLen
        rw [if_neg (by omega), Int.toNat_natCast]
        generalize foldN v / 2 ^ k = q at *
        rw [W_id (x := (q : Int) + 1) (by omega) (by omega), W_id (by omega) (by omega)]
        omega
  · obtain ⟨f, hf⟩ := fold_flag v
    rw [hf]
    have e : (decide (-2147483648 < v) && decide (v < 2147483648)) = false := by
      rw [Bool.and_eq_false_iff]
      by_cases h1 : -2147483648 < v
      · exact .inr (decide_eq_false fun h2 => hv ⟨h1, h2⟩)
      · exact .inl (decide_eq_false h1)
    simp only [Option.bind_some, e]
    rw [if_pos (by decide)]
    exact ⟨_, _, rfl, ⟨fun h => (nomatch h), fun h => absurd ⟨h.1, h.2.1⟩ hv⟩, fun h => (nomatch h)⟩
def sumL (par n : Int) (xs : List Int) : Int := (xs.map (oneLen par n)).sum
theorem oneLen_le {par n v : Int} (hp : par = -1 ∨ 0 ≤ par ∧ par ≤ 31) (hn : 0 ≤ n) (hn2 : n ≤ 31) (h : OneOk par n v) : 0 ≤ oneLen par n v ∧ oneLen par n v ≤ 65568 := by
  unfold oneLen
  split
  · omega
  · have := h.2.2.2 (by omega)
    generalize foldN v / 2 ^ par.toNat = q at *
    omega
theorem sumL_le {par n : Int} {xs : List Int} (hp : par = -1 ∨ 0 ≤ par ∧ par ≤ 31) (hn : 0 ≤ n) (hn2 : n ≤ 31) (h : ∀ v, v ∈ xs → OneOk par n v) : 0 ≤ sumL par n xs ∧ sumL par n xs ≤ 65568 * xs.length := by
  induction xs with
  | nil => simp [sumL]
  | cons x l ih =>
    have h1 := oneLen_le hp hn hn2 (h x (List.mem_cons_self ..))
    have h2 := ih fun v hv => h v (List.mem_cons_of_mem _ hv)
    unfold sumL at *
    simp only [List.map_cons, List.sum_cons, List.length_cons]
    omega
theorem some_spec {xs : List Int} {par n : Int} (hl : xs.length < 2 ^ 40) (hp : par = -1 ∨ 0 ≤ par ∧ par ≤ 31) (hn : 0 ≤ n) (hn2 : n ≤ 31) : ∃ c b, rice_some xs par n = some (c, b) ∧ (b = true ↔ ∀ v, v ∈ xs → OneOk par n v) ∧ (b = true → c = sumL par n xs) := by
  unfold rice_some
  refine Exists.elim (iter_for (step := rice_some_L1 xs par n) xs.length (fun i a => a = (sumL par n (xs.take i), (i : Int)) ∧ ∀ v, v ∈ xs.take i → OneOk par n v) (fun r => (r.2 = true ↔ ∀ v, v ∈ xs → OneOk par n v) ∧ (r.2 = true → r.1 = sumL par n xs)) (by omega) (fun i a hi ha => ?_) (fun a ha => ?_) (a0 := (0, 0)) ⟨rfl, fun v hv => by simp at hv⟩) (fun r hr => ⟨r.1, r.2, hr.1, hr.2.1, hr.2.2⟩)
  · obtain ⟨rfl, hall⟩ := ha
    unfold rice_some_L1
    rw [if_pos (by simpa using hi), idx_nat hi]
    simp only [Option.bind_some]
    obtain ⟨c, b, h1, h2, h3⟩ := one_spec (v := xs[i]) (n := n) hp
    rw [h1]
    simp only [Option.bind_some]
    cases b with
    | false =>
      rw [if_pos (by decide)]
      exact .inr ⟨_, rfl, ⟨fun h => (nomatch h), fun h => by have := h2.2 (h _ (List.getElem_mem hi)); cases this⟩, fun h => (nomatch h)⟩
    | true =>
      rw [if_neg (by decide)]
      have hb := sumL_le hp hn hn2 hall
      have hok := h2.1 rfl
      have hol := oneLen_le hp hn hn2 hok
      have hlen : (xs.take i).length ≤ xs.length := by simp; omega
      refine .inl ⟨_, rfl, ?_, fun v hv => ?_⟩
      · rw [W_succ (by omega), h3 rfl, W_id (by omega) (by omega)]
        rw [List.take_succ_eq_append_getElem hi]
        unfold sumL
        rw [List.map_append, List.sum_append]
        simp
      · rw [List.take_succ_eq_append_getElem hi] at hv
        rcases List.mem_append.1 hv with hv | hv
        · exact hall v hv
        · rw [List.mem_singleton] at hv; subst hv; exact hok
  · obtain ⟨rfl, hall⟩ := ha
    unfold rice_some_L1 rice_some_K1
    rw [if_neg (by simp)]
    rw [List.take_length] at *
    exact ⟨_, rfl, ⟨fun _ => hall, fun _ => rfl⟩, fun _ => rfl⟩

/-- How many bits a part has. -/
theorem partBits_sum {m : Nat} {par n : Int} {xs : List Int} (h : PartOk m par n xs) : ((partBits m par n xs).length : Int) = 4 + m + (if par = -1 then 5 else 0) + sumL par n xs := by
  have hf : ∀ (f : Int → List Bool) (g : Int → Int) (l : List Int), (∀ v, v ∈ l → ((f v).length : Int) = g v) → ((l.flatMap f).length : Int) = (l.map g).sum := by
    intro f g l
    induction l with
    | nil => intro _; rfl
    | cons x l ih =>
      intro h
      rw [List.flatMap_cons, List.length_append, List.map_cons, List.sum_cons, ← ih fun v hv => h v (List.mem_cons_of_mem _ hv), ← h x (List.mem_cons_self ..)]
      omega
  unfold partBits sumL
  rcases h with ⟨rfl, h0, h1, hv⟩ | ⟨h0, h1, rfl, hv⟩
  · rw [if_pos rfl, if_pos rfl]
    have := hf (escBits n.toNat) (oneLen (-1) n) xs (fun v _ => by unfold oneLen; rw [if_pos rfl, escBits_length]; omega)
    simp only [List.length_append, bitsOf_length]
    omega
  · rw [if_neg (by omega), if_neg (by omega)]
    have := hf (codeBits par.toNat) (oneLen par 0) xs (fun v _ => by unfold oneLen; rw [if_neg (by omega), codeBits_length])
    simp only [List.length_append, bitsOf_length]
    omega

theorem size_fold {m : Nat} {y0 : rice_Plan} {y2 : List Int} (hm : m ≤ 1) (hM : y0.Method = (m : Int)) (qs : List Part)
    (hq : ∀ q, q ∈ qs → idx y0.Params q.e.1 = some q.par ∧ idx y0.Bits q.e.1 = some q.n ∧ sub y2 q.e.2.a0 q.e.2.a1 = some q.xs ∧ q.xs.length < 2 ^ 20 ∧ PartOk m q.par q.n q.xs ∧ ∀ v, v ∈ q.xs → OneOk q.par q.n v) (a : Nat) (hL : a + (qs.flatMap (Part.bits m)).length < 2 ^ 50) :
    foldR (rice_Size_L1 y0 y2) rice_Size_K2 rice_Size_K3 (qs.map Part.e) (a : Int) = some (((a + (qs.flatMap (Part.bits m)).length : Nat) : Int), 0) := by
  induction qs generalizing a with
  | nil => simp [foldR, rice_Size_K2, rice_Size_K1]
  | cons q qs ih =>
    obtain ⟨h1, h2, h3, h4, h5, hone⟩ := hq q (List.mem_cons_self ..)
    have hE := escN_le hm
    have hsum := partBits_sum h5
    simp only [List.flatMap_cons, List.length_append] at hL ⊢
    have hqb : (q.bits m).length = (partBits m q.par q.n q.xs).length := rfl
    have hpn : (q.par = -1 ∨ 0 ≤ q.par ∧ q.par ≤ 31) ∧ 0 ≤ q.n ∧ q.n ≤ 31 := by
      rcases h5 with ⟨e, a1, a2, _⟩ | ⟨a1, a2, a3, _⟩
      · exact ⟨.inl e, a1, a2⟩
      · exact ⟨.inr ⟨a1, by omega⟩, by omega, by omega⟩
    obtain ⟨c, b, g1, g2, g3⟩ := some_spec (xs := q.xs) (by omega) hpn.1 hpn.2.1 hpn.2.2
    have hb := g2.2 hone
    have hle := sumL_le hpn.1 hpn.2.1 hpn.2.2 hone
    have hc := g3 hb
    have hx20 : (q.xs.length : Int) < 1048576 := by omega
    have hstep : rice_Size_L1 y0 y2 q.e (a : Int) = some (.inl ((a + (q.bits m).length : Nat) : Int)) := by
      unfold rice_Size_L1
      rw [h3]
      simp only [Option.bind_some]
      rw [h1, h2]
      simp only [Option.bind_some, g1, hb]
      rw [if_neg (by decide), hc, hM, W_id (x := sumL q.par q.n q.xs + 4) (by omega) (by omega), W_id (x := sumL q.par q.n q.xs + 4 + m) (by omega) (by omega), W_id (x := (a : Int) + (sumL q.par q.n q.xs + 4 + m)) (by omega) (by omega)]
      split
      · rename_i he
        rw [beq_iff_eq] at he
        rw [if_pos he] at hsum
        rw [W_id (by omega) (by omega)]
        refine congrArg (fun z => some (Sum.inl z)) ?_
        omega
      · rename_i he
        rw [beq_iff_eq] at he
        rw [if_neg he] at hsum
        refine congrArg (fun z => some (Sum.inl z)) ?_
        omega
    rw [List.map_cons, foldR, hstep]
    show foldR (rice_Size_L1 y0 y2) rice_Size_K2 rice_Size_K3 (qs.map Part.e) ((a + (q.bits m).length : Nat) : Int) = _
    rw [ih (fun q' hq' => hq q' (List.mem_cons_of_mem _ hq')) (a + (q.bits m).length) (by omega), Nat.add_assoc]
section
variable {p : rice_Plan} {skip : Nat} {d : List Int} {z : Int}
theorem size_unfold (hs : skip ≤ 32) (hd : d.length < 2 ^ 20) (hk : PlanOk p ((d.length + skip : Nat) : Int) (skip : Int)) (hc : rice_Check p ((d.length + skip : Nat) : Int) (skip : Int) = some 0) :
    rice_Size p (skip : Int) d = foldR (rice_Size_L1 p d) rice_Size_K2 rice_Size_K3 (partsN (d.length + skip) p.Order.toNat skip) 6 := by
  have hh := hk.head
  have ho1 := hh.o1; have ho2 := hh.o2; have hb2 := hh.b2
  have e0 : W ((d.length : Int) + (skip : Int)) = ((d.length + skip : Nat) : Int) := by rw [W_id (by omega) (by omega)]; omega
  unfold rice_Size
  rw [e0, hc]
  simp only [Option.bind_some]
  rw [if_neg (by decide)]
  simp only [lett, rice_parts, Option.bind_some]
  unfold partsF
  rw [if_pos ⟨by omega, by omega, by omega, by omega, by omega, by omega⟩]
  simp only [Option.bind_some, Int.toNat_natCast]
theorem size_check (h : rice_Size p (skip : Int) d = some (z, 0)) (hs : skip ≤ 32) (hd : d.length < 2 ^ 20) (hl : p.Params.length < 2 ^ 40) : rice_Check p ((d.length + skip : Nat) : Int) (skip : Int) = some 0 := by
  have e0 : W ((d.length : Int) + (skip : Int)) = ((d.length + skip : Nat) : Int) := by rw [W_id (by omega) (by omega)]; omega
  unfold rice_Size at h
  rw [e0] at h
  obtain ⟨c0, h0, h0'⟩ := rcheck_spec p ((d.length + skip : Nat) : Int) (skip : Int) hl
  rw [h0] at h
  simp only [Option.bind_some] at h
  rcases (Decidable.em (c0 = 0)).symm with hc0 | hc0
  · rw [if_pos (by simpa using hc0)] at h
    cases h
    exact absurd rfl hc0
  · rw [h0, hc0]
/-- **What rice.Size answers is how many bits are written.** -/
theorem size_count (hs : skip ≤ 32) (hd : d.length < 2 ^ 20) (hl : p.Params.length < 2 ^ 40) (hz : rice_Size p (skip : Int) d = some (z, 0)) : z = ((planBits p d skip).length : Int) := by
  have hlen := plan_len hs hd hl hz
  obtain ⟨hk, h1, h2, h3, h4⟩ := plan_all hs hd hl hz
  have hh := hk.head
  obtain ⟨m, hm, hM⟩ := Method_nat hh
  have ho2 := hh.o2
  have hl1 := hk.len1
  have hpo : (2 : Nat) ^ p.Order.toNat ≤ 2 ^ 15 := pow_le (by omega)
  have eM : p.Method.toNat = m := by omega
  have hu := size_unfold (p := p) (skip := skip) (d := d) hs hd hk (size_check hz hs hd hl)
  rw [hu] at hz
  have hE := escN_le hm
  have hone : ∀ q, q ∈ planParts p d skip → ∀ v, v ∈ q.xs → OneOk q.par q.n v := by
    intro q hq
    obtain ⟨⟨g1, g2, g3, g4, g5⟩, _⟩ := h4 q hq
    rw [eM] at g5
    rw [parts_e p d skip] at hz
    obtain ⟨xs, par, n, c, k1, k2, k3, k4⟩ := size_parts _ _ _ hz q.e (List.mem_map.2 ⟨q, hq, rfl⟩)
    rw [g3] at k1; rw [g1] at k2; rw [g2] at k3
    cases k1; cases k2; cases k3
    have hpn : (q.par = -1 ∨ 0 ≤ q.par ∧ q.par ≤ 31) ∧ 0 ≤ q.n ∧ q.n ≤ 31 := by
      rcases g5 with ⟨e, a1, a2, _⟩ | ⟨a1, a2, a3, _⟩
      · exact ⟨.inl e, a1, a2⟩
      · exact ⟨.inr ⟨a1, by omega⟩, by omega, by omega⟩
    obtain ⟨c', b, m1, m2, m3⟩ := some_spec (xs := q.xs) (by omega) hpn.1 hpn.2.1 hpn.2.2
    rw [k4] at m1
    cases m1
    exact m2.1 rfl
  rw [parts_e p d skip] at hz
  unfold planBits riceBits at hlen ⊢
  rw [eM] at hlen h4 ⊢
  simp only [List.length_append, bitsOf_length] at hlen
  have := size_fold (y0 := p) (y2 := d) hm hM (planParts p d skip) (fun q hq => let ⟨⟨a1, a2, a3, a4, a5⟩, _⟩ := h4 q hq; ⟨a1, a2, a3, a4, a5, hone q hq⟩) 6 (by omega)
  have e6 : ((6 : Nat) : Int) = 6 := rfl
  rw [e6, hz] at this
  cases this
  simp only [List.length_append, bitsOf_length]
  omega
end
end Go.Vg

namespace Go.Vg

theorem wrap_i64' (n : Int) : IntKind.i64.wrap n = (n + 9223372036854775808) % 18446744073709551616 - 9223372036854775808 := by
  simp only [IntKind.wrap, IntKind.bits, IntKind.signed]
  simp
  omega
/-- Numbers of which the last bits are 0. -/
def Dv (k : Nat) (x : Int) : Prop := x % 2 ^ k = 0
theorem wrap_mod {k : Nat} (hk : k ≤ 64) (z : Int) : IntKind.i64.wrap z % 2 ^ k = z % 2 ^ k := by
  have h : IntKind.i64.wrap z = z + 18446744073709551616 * (-((z + 9223372036854775808) / 18446744073709551616)) := by
    rw [wrap_i64']
    omega
  have e : (18446744073709551616 : Int) = 2 ^ k * 2 ^ (64 - k) := by
    rw [← Int.pow_add, show k + (64 - k) = 64 by omega]; rfl
  rw [h, e, Int.mul_assoc, Int.add_mul_emod_self_left]
theorem bv_mod {k : Nat} (hk : k ≤ 64) (x : Int) : (((BitVec.ofInt 64 x).toNat % 2 ^ k : Nat) : Int) = x % 2 ^ k := by
  rw [BitVec.toNat_ofInt]
  have e : ((2 ^ 64 : Nat) : Int) = 2 ^ k * 2 ^ (64 - k) := by
    rw [← Int.pow_add, show k + (64 - k) = 64 by omega]; rfl
  have h1 : (((x % ((2 ^ 64 : Nat) : Int)).toNat : Nat) : Int) = x % ((2 ^ 64 : Nat) : Int) := Int.toNat_of_nonneg (Int.emod_nonneg _ (by decide))
  rw [Int.natCast_emod, h1, e, pow_cast, Int.emod_emod_of_dvd _ (Int.dvd_mul_right _ _)]
theorem or_dv {k : Nat} (hk : k ≤ 64) (x y : Int) : Dv k (arD .or .i64 x y) ↔ Dv k x ∧ Dv k y := by
  unfold Dv
  have e : arD .or .i64 x y = IntKind.i64.wrap ((BitVec.ofInt 64 x ||| BitVec.ofInt 64 y).toNat : Int) := rfl
  rw [e, wrap_mod hk, ← bv_mod hk x, ← bv_mod hk y, BitVec.toNat_or, ← pow_cast, ← Int.natCast_emod, Nat.or_mod_two_pow]
  generalize (BitVec.ofInt 64 x).toNat % 2 ^ k = a
  generalize (BitVec.ofInt 64 y).toNat % 2 ^ k = b
  constructor
  · intro h
    have h : a ||| b = 0 := by omega
    have := Nat.or_eq_zero_iff.1 h
    omega
  · rintro ⟨h1, h2⟩
    have h1 : a = 0 := by omega
    have h2 : b = 0 := by omega
    rw [h1, h2]; rfl
theorem or_range (x y : Int) : -9223372036854775808 ≤ arD .or .i64 x y ∧ arD .or .i64 x y ≤ 9223372036854775807 := by
  have e : arD .or .i64 x y = IntKind.i64.wrap ((BitVec.ofInt 64 x ||| BitVec.ofInt 64 y).toNat : Int) := rfl
  rw [e, wrap_i64']
  omega
theorem and_one (x : Int) : arD .and .i64 x 1 = x % 2 := by
  have := and_mask (n := 1) x (by omega)
  have e : (((2 ^ 1 - 1 : Nat)) : Int) = 1 := rfl
  rw [e] at this
  rw [this]
  unfold sgn
  have h := Int.emod_nonneg x (show (2 : Int) ≠ 0 by decide)
  have e2 : (2 : Int) ^ 1 = 2 := rfl
  rw [e2, Int.toNat_of_nonneg h]
/-- Noughts at the end of a number: so many, and no more. -/
theorem noughts_spec {x : Int} (h1 : -9223372036854775808 ≤ x) (h2 : x ≤ 9223372036854775807) : ∃ n : Nat, iter subframe_wasted_L1 (x, 0) = some (n : Int) ∧ n ≤ 63 ∧ Dv n x ∧ (x = 0 → n = 0) ∧ (x ≠ 0 → ¬ Dv (n + 1) x) := by
  refine Exists.elim (iter_of (step := subframe_wasted_L1) (I := fun a => ∃ n : Nat, a.2 = (n : Int) ∧ n ≤ 63 ∧ x = a.1 * 2 ^ n ∧ (x = 0 → n = 0)) (m := fun a => 64 - a.2.toNat) (Q := fun r => ∃ n : Nat, r = (n : Int) ∧ n ≤ 63 ∧ Dv n x ∧ (x = 0 → n = 0) ∧ (x ≠ 0 → ¬ Dv (n + 1) x)) (fun a ha => ?_) (a0 := (x, 0)) ⟨0, rfl, by omega, by simp, fun _ => rfl⟩ (show 64 - (0 : Int).toNat < ROUNDS by decide)) (fun r hr => let ⟨h1, n, h2, h3⟩ := hr; ⟨n, by rw [h1, h2], h3⟩)
  obtain ⟨n, hn, hn63, hx, h0⟩ := ha
  have hp := pow_posI n
  have hd : Dv n x := by unfold Dv; rw [hx]; exact Int.mul_emod_left _ _
  unfold subframe_wasted_L1
  rw [ite_and, and_one]
  by_cases hc : a.1 ≠ 0 ∧ a.1 % 2 = 0
  · left
    rw [if_pos (by simpa using hc), hn, show (1 : Int) = ((1 : Nat) : Int) from rfl, shr_int _ (by omega)]
    have e2 : (2 : Int) ^ 1 = 2 := rfl
    have hx2 : x = a.1 / 2 * 2 ^ (n + 1) := by
      rw [Int.pow_succ, ← Int.mul_assoc, Int.mul_right_comm]
      have : a.1 / 2 * 2 = a.1 := by omega
      rw [this]; exact hx
    have hx0 : x ≠ 0 := by rw [hx]; exact Int.mul_ne_zero hc.1 (Int.ne_of_gt hp)
    have hn62 : n + 1 ≤ 63 := by
      rcases Nat.lt_or_ge n 63 with h | h
      · exact h
      · exfalso
        obtain rfl : n = 63 := by omega
        have e63 : (2 : Int) ^ 63 = 9223372036854775808 := by decide
        have ha := hc.1
        have hb := hc.2
        rw [e63] at hx
        omega
    refine ⟨_, rfl, ⟨n + 1, W_succ (by omega), hn62, hx2, fun h => absurd h hx0⟩, ?_⟩
    show 64 - (W ((n : Int) + 1)).toNat < 64 - (n : Int).toNat
    rw [W_succ (by omega)]
    omega
  · right
    rw [if_neg (by simpa using hc)]
    refine ⟨_, rfl, n, hn, hn63, hd, h0, fun hx0 hd1 => ?_⟩
    have ha0 : a.1 ≠ 0 := fun h => hx0 (by rw [hx, h, Int.zero_mul])
    have hodd : a.1 % 2 = 1 := by
      have : ¬ a.1 % 2 = 0 := fun h => hc ⟨ha0, h⟩
      omega
    unfold Dv at hd1
    rw [hx, Int.pow_succ, Int.mul_comm a.1, Int.mul_emod_mul_of_pos _ _ hp, hodd] at hd1
    have := Int.mul_eq_zero.1 hd1
    omega
/-- What subframe.wasted tells. -/
theorem wasted_spec {l : List Int} (hl : l.length < 2 ^ 40) (hr : ∀ x, x ∈ l → -9223372036854775808 ≤ x ∧ x ≤ 9223372036854775807) : ∃ n : Nat, subframe_wasted l = some (n : Int) ∧ n ≤ 63 ∧ (∀ x, x ∈ l → Dv n x) ∧ ((∀ x, x ∈ l → x = 0) → n = 0) ∧ (∀ x, x ∈ l → x ≠ 0 → ∃ y, y ∈ l ∧ ¬ Dv (n + 1) y) := by
  unfold subframe_wasted
  have key : ∀ a : Int, -9223372036854775808 ≤ a → a ≤ 9223372036854775807 → (∀ k, k ≤ 64 → (Dv k a ↔ ∀ x, x ∈ l → Dv k x)) → ∃ n : Nat, subframe_wasted_K1 a = some (n : Int) ∧ n ≤ 63 ∧ (∀ x, x ∈ l → Dv n x) ∧ ((∀ x, x ∈ l → x = 0) → n = 0) ∧ (∀ x, x ∈ l → x ≠ 0 → ∃ y, y ∈ l ∧ ¬ Dv (n + 1) y) := by
    intro a h1 h2 hd
    obtain ⟨n, g1, g2, g3, g4, g5⟩ := noughts_spec h1 h2
    have z64 : ∀ x : Int, -9223372036854775808 ≤ x → x ≤ 9223372036854775807 → (Dv 64 x ↔ x = 0) := fun x q1 q2 => by
      have e : (2 : Int) ^ 64 = 18446744073709551616 := by decide
      unfold Dv
      rw [e]
      omega
    refine ⟨n, g1, g2, (hd n (by omega)).1 g3, fun hall => g4 ?_, fun x hx hx0 => ?_⟩
    · exact (z64 a h1 h2).1 ((hd 64 (by omega)).2 fun x hx => (z64 x (hr x hx).1 (hr x hx).2).2 (hall x hx))
    · have ha0 : a ≠ 0 := fun h => hx0 ((z64 x (hr x hx).1 (hr x hx).2).1 ((hd 64 (by omega)).1 ((z64 a h1 h2).2 h) x hx))
      have hn := g5 ha0
      rw [hd (n + 1) (by omega)] at hn
      exact Classical.byContradiction fun hc => hn fun y hy => Classical.byContradiction fun hy2 => hc ⟨y, hy, hy2⟩
  refine Exists.elim (iter_for (step := subframe_wasted_L2 l) l.length (fun i a => a.2 = (i : Int) ∧ -9223372036854775808 ≤ a.1 ∧ a.1 ≤ 9223372036854775807 ∧ ∀ k, k ≤ 64 → (Dv k a.1 ↔ ∀ x, x ∈ l.take i → Dv k x)) (fun r => ∃ n : Nat, r = (n : Int) ∧ n ≤ 63 ∧ (∀ x, x ∈ l → Dv n x) ∧ ((∀ x, x ∈ l → x = 0) → n = 0) ∧ (∀ x, x ∈ l → x ≠ 0 → ∃ y, y ∈ l ∧ ¬ Dv (n + 1) y)) (by omega) (fun i a hi ha => ?_) (fun a ha => ?_) (a0 := (0, 0)) ⟨rfl, by decide, by decide, fun k hk => ⟨fun _ x hx => by simp at hx, fun _ => by unfold Dv; simp⟩⟩) (fun r hr => let ⟨h1, n, h2, h3⟩ := hr; ⟨n, by rw [h1, h2], h3⟩)
  · obtain ⟨h1, h2, h3, h4⟩ := ha
    left
    unfold subframe_wasted_L2
    rw [h1, if_pos (by simpa using hi), idx_nat hi]
    simp only [Option.bind_some]
    refine ⟨_, rfl, W_succ (by omega), (or_range _ _).1, (or_range _ _).2, fun k hk => ?_⟩
    show Dv k (arD .or .i64 a.1 l[i]) ↔ _
    rw [or_dv hk, h4 k hk, List.take_succ_eq_append_getElem hi]
    constructor
    · rintro ⟨q1, q2⟩ x hx
      rcases List.mem_append.1 hx with hx | hx
      · exact q1 x hx
      · rw [List.mem_singleton] at hx; subst hx; exact q2
    · intro q
      exact ⟨fun x hx => q x (List.mem_append_left _ hx), q _ (List.mem_append_right _ (List.mem_singleton.2 rfl))⟩
  · obtain ⟨h1, h2, h3, h4⟩ := ha
    unfold subframe_wasted_L2
    rw [h1, if_neg (by simp)]
    rw [List.take_length] at h4
    obtain ⟨n, g1, g2⟩ := key a.1 h2 h3 h4
    rw [g1]
    exact ⟨_, rfl, n, rfl, g2⟩
end Go.Vg

namespace Go.Vg

theorem foldR_tot {E X R A : Type} {step : E → X → Option (X ⊕ R)} {done : X → Option A} {ret : R → Option A} (N : Nat) (I : Nat → X → Prop) (J : R → Prop) (Q : A → Prop) (hd : ∀ i x, i ≤ N → I i x → ∃ r, done x = some r ∧ Q r) (hr : ∀ q, J q → ∃ r, ret q = some r ∧ Q r) (es : List E)
    (hs : ∀ e, e ∈ es → ∀ i x, i < N → I i x → (∃ x', step e x = some (.inl x') ∧ I (i + 1) x') ∨ ∃ q, step e x = some (.inr q) ∧ J q) : ∀ i x, i + es.length ≤ N → I i x → ∃ r, foldR step done ret es x = some r ∧ Q r := by
  induction es with
  | nil => intro i x hi hx; exact hd i x (by simpa using hi) hx
  | cons e es ih =>
    intro i x hi hx
    simp only [List.length_cons] at hi
    rw [foldR]
    rcases hs e (List.mem_cons_self ..) i x (by omega) hx with ⟨x', h1, h2⟩ | ⟨q, h1, h2⟩
    · rw [h1]
      exact ih (fun e' he => hs e' (List.mem_cons_of_mem _ he)) (i + 1) x' (by omega) h2
    · rw [h1]
      exact hr q h2

theorem pbest_some {l : List Int} (h0 : 0 < l.length) (hl : l.length < 2 ^ 40) : ∃ o : Nat, predict_Best l = some (o : Int) ∧ o ≤ 4 ∧ o < l.length := by
  unfold predict_Best
  have hn : ∃ n : Nat, (if (l.length : Int) < 5 then (l.length : Int) else 5) = (n : Int) ∧ n ≤ 5 ∧ n ≤ l.length := by
    split
    · exact ⟨l.length, rfl, by omega, Nat.le_refl _⟩
    · exact ⟨5, rfl, by omega, by omega⟩
  obtain ⟨n, hn, hn5, hnl⟩ := hn
  refine Exists.elim (iter_for (step := predict_Best_L1 l) n (fun i a => a.2.2 = (i : Int) ∧ ∃ o : Nat, a.1 = (o : Int) ∧ o ≤ 4 ∧ o < l.length) (fun r => ∃ o : Nat, r = (o : Int) ∧ o ≤ 4 ∧ o < l.length) (by omega) (fun i a hi ha => ?_) (fun a ha => ?_) (a0 := (0, -1, 0)) ⟨rfl, 0, rfl, by omega, h0⟩) (fun r hr => let ⟨h1, o, h2, h3⟩ := hr; ⟨o, by rw [h1, h2], h3⟩)
  · obtain ⟨hi2, o, ho, ho4, hol⟩ := ha
    unfold predict_Best_L1
    rw [hn, hi2, if_pos (by simpa using hi)]
    obtain ⟨q, hq, hql⟩ := fixed_some (n := i) (by omega)
    rw [hq]
    simp only [Option.bind_some]
    obtain ⟨d, c, hd, _, _⟩ := residual_spec (p := q) (l := l) hl (by omega)
    have hdl : d.length < 2 ^ 40 ∨ c ≠ 0 := by
      by_cases hc : c = 0
      · left
        have := residual_spec (p := q) (l := l) hl (by omega)
        obtain ⟨d', c', hd', h', _⟩ := this
        rw [hd] at hd'
        cases hd'
        have := (h' hc).2.2.2.1
        omega
      · exact .inr hc
    rw [hd]
    simp only [Option.bind_some]
    by_cases hc : c = 0
    · rw [if_neg (by simpa using hc)]
      have hdl : d.length < 2 ^ 40 := by rcases hdl with h | h; exact h; exact absurd hc h
      refine Exists.elim (iter_for (step := predict_Best_L2 a (d, c)) d.length (fun j b => b.2 = (j : Int)) (fun r => ∃ a', r = .inl a' ∧ a'.2.2 = ((i + 1 : Nat) : Int) ∧ ∃ o : Nat, a'.1 = (o : Int) ∧ o ≤ 4 ∧ o < l.length) (by omega) (fun j b hj hb => ?_) (fun b hb => ?_) (a0 := (0, 0)) rfl) (fun r hr => let ⟨h1, a', h2, h3⟩ := hr; .inl ⟨a', by rw [h1, h2], h3⟩)
      · unfold predict_Best_L2
        rw [hb, if_pos (by simpa using hj)]
        simp only [idx_nat hj, Option.bind_some]
        exact .inl ⟨_, rfl, W_succ (by omega)⟩
      · unfold predict_Best_L2 predict_Best_K3 predict_Best_K2
        rw [hb, if_neg (by simp), ite_or]
        split
        · exact ⟨_, rfl, _, rfl, by rw [hi2, W_succ (by omega)], i, hi2, by omega, by omega⟩
        · exact ⟨_, rfl, _, rfl, by rw [hi2, W_succ (by omega)], o, ho, ho4, hol⟩
    · rw [if_pos (by simpa using hc)]
      exact .inr ⟨_, rfl, 0, rfl, by omega, h0⟩
  · obtain ⟨hi2, o, ho, ho4, hol⟩ := ha
    unfold predict_Best_L1
    rw [hn, hi2, if_neg (by simp)]
    exact ⟨_, rfl, o, ho, ho4, hol⟩

theorem cheapest_total {m : Nat} {l : List Int} (hm : m ≤ 1) (hl : l.length < 2 ^ 40) (hv : ∀ v, v ∈ l → -2147483648 < v ∧ v < 2147483648) : ∃ r, rice_cheapest (m : Int) l = some r := by
  unfold rice_cheapest
  rw [escape_spec hm]
  simp only [Option.bind_some]
  have hE := escN_le hm
  refine Exists.elim (iter_for (step := rice_cheapest_L2 l (escN m : Int)) (escN m) (fun i a => a.2.2 = (i : Int)) (fun _ => True) (by omega) (fun i a hi ha => ?_) (fun a ha => ?_) (a0 := (0, -1, 0)) rfl) (fun r hr => ⟨r, hr.1⟩)
  · unfold rice_cheapest_L2 rice_cheapest_K3
    rw [ha, if_pos (by simpa using hi)]
    obtain ⟨r, hr⟩ := some_total (xs := l) (par := (i : Int)) (n := 0) hl (.inr (by omega))
    rw [hr]
    simp only [Option.bind_some]
    rw [ite_or, ite_and]
    left
    split
    · exact ⟨_, rfl, W_succ (by omega)⟩
    · exact ⟨_, rfl, W_succ (by omega)⟩
  · unfold rice_cheapest_L2 rice_cheapest_K1
    rw [ha, if_neg (by simp)]
    refine Exists.elim (iter_for (step := rice_cheapest_L1 l (a.1, a.2.1)) l.length (fun i b => b.2 = (i : Int)) (fun _ => True) (by omega) (fun i b hi hb => ?_) (fun b hb => ?_) (a0 := (0, 0)) rfl) (fun r hr => ⟨r, by rw [hr.1]; rfl, trivial⟩)
    · unfold rice_cheapest_L1
      rw [hb, if_pos (by simpa using hi), idx_nat hi]
      have := hv _ (List.getElem_mem hi)
      obtain ⟨w, hw, _⟩ := width_spec this.1 this.2
      simp only [Option.bind_some, hw]
      exact .inl ⟨_, rfl, W_succ (by omega)⟩
    · unfold rice_cheapest_L1 rice_cheapest_K2
      rw [hb, if_neg (by simp), ite_or, ite_and]
      split <;> exact ⟨_, rfl, trivial⟩
theorem rbest_total {skip : Nat} {d : List Int} (hs : skip ≤ 32) (hd : d.length < 2 ^ 20) : ∃ q c, rice_Best 4 (skip : Int) d = some (q, c) ∧ q.Params.length ≤ 2 ^ 16 := by
  unfold rice_Best
  rw [if_neg (by decide)]
  have e0 : W ((d.length : Int) + (skip : Int)) = ((d.length + skip : Nat) : Int) := by rw [W_id (by omega) (by omega)]; omega
  rw [e0]
  obtain ⟨c0, h0, h0'⟩ := head_spec 0 0 ((d.length + skip : Nat) : Int) (skip : Int)
  rw [h0]
  simp only [Option.bind_some]
  rcases (Decidable.em (c0 = 0)).symm with hc0 | hc0
  · rw [if_pos (by simpa using hc0)]
    exact ⟨_, _, rfl, Nat.zero_le _⟩
  rw [if_neg (by simpa using hc0)]
  have hh := h0'.1 hc0
  have hb2 := hh.b2
  have hmain : (∀ v, v ∈ d → -2147483648 < v ∧ v < 2147483648) → ∃ r, rice_Best_K1 4 (skip : Int) d () = some r ∧ r.1.Params.length ≤ 2 ^ 16 := by
    intro hv
    unfold rice_Best_K1
    refine iter_for (step := rice_Best_L1 4 (skip : Int) d) 2 (fun i a => a.2.1 = (i : Int) ∧ a.2.2.2.2.1.length ≤ 2 ^ 16) (fun r => r.1.Params.length ≤ 2 ^ 16) (by omega) (fun i a hi ha => ?_) (fun a ha => ?_) (a0 := (-1, 0, 0, 0, [], [])) ⟨rfl, Nat.zero_le _⟩
    · obtain ⟨ha1, ha2⟩ := ha
      left
      unfold rice_Best_L1
      rw [ha1, if_pos (by simp; omega)]
      refine Exists.elim (iter_for (step := rice_Best_L2 4 (skip : Int) d a) 5 (fun j b => b.2.1 = (j : Int) ∧ b.2.2.2.2.1.length ≤ 2 ^ 16) (fun r => ∃ a', r = .inl a' ∧ a'.2.1 = ((i + 1 : Nat) : Int) ∧ a'.2.2.2.2.1.length ≤ 2 ^ 16) (by omega) (fun j b hj hb => ?_) (fun b hb => ?_) (a0 := (a.1, 0, a.2.2.1, a.2.2.2.1, a.2.2.2.2.1, a.2.2.2.2.2)) ⟨rfl, ha2⟩) (fun r hr => let ⟨h1, a', h2, h3⟩ := hr; ⟨a', by rw [h1, h2], h3⟩)
      · obtain ⟨hb1, hb3⟩ := hb
        left
        unfold rice_Best_L2
        have e5 : W (4 + 1) = 5 := by decide
        rw [hb1, e5, if_pos (by simp; omega), e0, ha1]
        obtain ⟨c, k0, k0'⟩ := head_spec (i : Int) (j : Int) ((d.length + skip : Nat) : Int) (skip : Int)
        rw [k0]
        simp only [Option.bind_some]
        by_cases hc : c = 0
        · rw [if_neg (by simpa using hc)]
          have kk := k0'.1 hc
          have hdv := kk.dv
          have hmo := kk.mo
          simp only [Int.toNat_natCast] at hdv hmo
          simp only [lett, rice_parts, Option.bind_some]
          unfold partsF
          rw [if_pos ⟨by omega, by omega, by omega, by omega, by omega, by omega⟩]
          simp only [Option.bind_some, Int.toNat_natCast]
          have hpj : (2 : Nat) ^ j ≤ 2 ^ 4 := pow_le (by omega)
          refine Exists.elim (foldR_tot (step := rice_Best_L3 d a) (done := rice_Best_K7 a b) (ret := rice_Best_K8 b) (2 ^ j) (fun i x => x.2.1.length = i ∧ x.2.2.length = i) (fun _ => True) (fun r => ∃ b', r = .inl b' ∧ b'.2.1 = ((j + 1 : Nat) : Int) ∧ b'.2.2.2.2.1.length ≤ 2 ^ 16) (fun n x hn hx => ?_) (fun q _ => ?_) (partsN (d.length + skip) j skip) (fun e he n x hn hx => ?_) 0 (6, [], []) (by unfold partsN; simp) ⟨rfl, rfl⟩) (fun r hr => let ⟨h1, b', h2, h3⟩ := hr; ⟨b', by rw [h1, h2], h3⟩)
          · unfold rice_Best_K7 rice_Best_K5 rice_Best_K4
            rw [ite_or]
            split
            · exact ⟨_, rfl, _, rfl, by rw [hb1, W_succ (by omega)], by show x.2.1.length ≤ _; omega⟩
            · exact ⟨_, rfl, _, rfl, by rw [hb1, W_succ (by omega)], hb3⟩
          · unfold rice_Best_K8 rice_Best_K4
            exact ⟨_, rfl, _, rfl, by rw [hb1, W_succ (by omega)], hb3⟩
          · unfold partsN at he
            obtain ⟨i', hi', rfl⟩ := List.mem_map.1 he
            rw [List.mem_range] at hi'
            have hsub := (part_sub (d := d) rfl hdv hmo hi').1
            unfold rice_Best_L3 rice_Best_K6
            simp only [hsub, Option.bind_some, ha1]
            obtain ⟨r, hr⟩ := cheapest_total (m := i) (l := partXs d ((d.length + skip) / 2 ^ j) skip i') (by omega) (by unfold partXs; simp; omega) (fun v hx => hv v (by unfold partXs at hx; exact List.mem_of_mem_drop (List.mem_of_mem_take hx)))
            rw [hr]
            simp only [Option.bind_some]
            split
            · exact .inr ⟨_, rfl, trivial⟩
            · rw [app_ok (by simp; omega), app_ok (by simp; omega)]
              exact .inl ⟨_, rfl, by simp; omega, by simp; omega⟩
        · rw [if_pos (by simpa using hc)]
          unfold rice_Best_K4
          exact ⟨_, rfl, by rw [hb1, W_succ (by omega)], hb3⟩
      · obtain ⟨hb1, hb3⟩ := hb
        unfold rice_Best_L2 rice_Best_K3
        have e5 : W (4 + 1) = 5 := by decide
        rw [hb1, e5, if_neg (by decide)]
        exact ⟨_, rfl, _, rfl, by rw [ha1, W_succ (by omega)], hb3⟩
    · obtain ⟨ha1, ha2⟩ := ha
      unfold rice_Best_L1 rice_Best_K2
      rw [ha1, if_neg (by decide)]
      exact ⟨_, rfl, ha2⟩
  refine Exists.elim (iter_for (step := rice_Best_L4 4 (skip : Int) d) d.length (fun i a => a = (i : Int) ∧ ∀ v, v ∈ d.take i → -2147483648 < v ∧ v < 2147483648) (fun r => r.1.Params.length ≤ 2 ^ 16) (by omega) (fun i a hi ha => ?_) (fun a ha => ?_) (a0 := 0) ⟨rfl, fun v hv => by simp at hv⟩) (fun r hr => ⟨r.1, r.2, hr.1, hr.2⟩)
  · obtain ⟨rfl, hall⟩ := ha
    unfold rice_Best_L4
    rw [if_pos (by simpa using hi), idx_nat hi]
    obtain ⟨f, hf⟩ := fold_flag d[i]
    simp only [Option.bind_some, hf]
    split
    · exact .inr ⟨_, rfl, Nat.zero_le _⟩
    · rename_i hb
      refine .inl ⟨_, rfl, W_succ (by omega), fun v hv => ?_⟩
      rw [List.take_succ_eq_append_getElem hi] at hv
      rcases List.mem_append.1 hv with hv | hv
      · exact hall v hv
      · rw [List.mem_singleton] at hv
        subst hv
        simpa using hb
  · obtain ⟨rfl, hall⟩ := ha
    unfold rice_Best_L4
    rw [if_neg (by simp)]
    rw [List.take_length] at hall
    obtain ⟨r, h1, h2⟩ := hmain hall
    rw [h1]
    exact ⟨_, rfl, h2⟩
end Go.Vg

namespace Go.Vg

theorem sizes_conv {n d : Int} (h : 4 ≤ d ∧ d ≤ 33 ∧ 1 ≤ n ∧ n ≤ 65535) : subframe_sizes n d = some 0 := by
  unfold subframe_sizes
  rw [ite_or, ite_or, ite_or, if_neg (by simp only [Bool.or_eq_true, decide_eq_true_eq]; omega)]
theorem fixed_lin {n : Nat} (h : n ≤ 4) {q : predict_Linear} (hq : predict_Fixed (n : Int) = some (q, 0)) : LinOk q := by
  have key : ∀ cs : List Int, cs.length ≤ 32 → (∀ x, x ∈ cs → -8 ≤ x ∧ x < 8) → LinOk ⟨4, 0, cs⟩ := fun cs h1 h2 => ⟨h1, (show (1 : Int) ≤ 4 by decide), (show (4 : Int) ≤ 15 by decide), (show (0 : Int) ≤ 0 by decide), (show (0 : Int) ≤ 15 by decide), h2⟩
  rcases (show n = 0 ∨ n = 1 ∨ n = 2 ∨ n = 3 ∨ n = 4 by omega) with rfl | rfl | rfl | rfl | rfl
  · have : some ((⟨4, 0, []⟩ : predict_Linear), (0 : Int)) = some (q, 0) := hq
    cases this; exact key _ (by decide) (by decide)
  · have : some ((⟨4, 0, [1]⟩ : predict_Linear), (0 : Int)) = some (q, 0) := hq
    cases this; exact key _ (by decide) (by decide)
  · have : some ((⟨4, 0, [2, -1]⟩ : predict_Linear), (0 : Int)) = some (q, 0) := hq
    cases this; exact key _ (by decide) (by decide)
  · have : some ((⟨4, 0, [3, -3, 1]⟩ : predict_Linear), (0 : Int)) = some (q, 0) := hq
    cases this; exact key _ (by decide) (by decide)
  · have : some ((⟨4, 0, [4, -6, 4, -1]⟩ : predict_Linear), (0 : Int)) = some (q, 0) := hq
    cases this; exact key _ (by decide) (by decide)
end Go.Vg
