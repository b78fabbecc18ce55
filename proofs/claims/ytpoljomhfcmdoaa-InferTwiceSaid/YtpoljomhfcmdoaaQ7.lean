/- The law of a chain of candidates that stand one behind the other. -/
import Derived.Test.YtpoljomhfcmdoaaQ6
set_option maxRecDepth 4000
set_option linter.all false
set_option linter.unusedVariables false
set_option linter.unusedSimpArgs false
namespace Go.Vg
open Go

def candC (b : Int) (i : Nat) : chain_Cand := ⟨⟨0, 0, 0⟩, 10 * i, 10, i, b, false⟩
def gC (b : Int) : chain_Guess := ⟨⟨0, 0, 0⟩, false, b⟩
def allC (b : Int) (n : Nat) : List chain_Cand := (List.range n).map (candC b)
def restC (b : Int) (t0 t1 : Int) (n : Nat) : List chain_Cand := ((List.range n).filter fun i : Nat => decide ((i : Int) < t0 ∨ t1 ≤ (i : Int))).map (candC b)
theorem allC_succ (b : Int) (n : Nat) : allC b (n + 1) = allC b n ++ [candC b n] := by simp [allC, List.range_succ]
theorem restC_succ (b t0 t1 : Int) (n : Nat) : restC b t0 t1 (n + 1) = restC b t0 t1 n ++ (if (n : Int) < t0 ∨ t1 ≤ (n : Int) then [candC b n] else []) := by
  simp only [restC, List.range_succ, List.filter_append, List.map_append]
  congr 1
  by_cases h : (n : Int) < t0 ∨ t1 ≤ (n : Int)
  · simp [h]
  · rw [if_neg h]; simp [h]
theorem whr_C (b : Int) (i : Nat) : whr (gC b) (candC b i) = ⟨i * b, i * b + b⟩ := by simp [whr, gC, candC]

section
variable {b : Int} (hb0 : 16 ≤ b) (hb : b ≤ 200) {n : Nat} (hn : n ≤ 20)
include hb0 hb hn

theorem few_C {i : Nat} (hi : i < n) : fewC (candC b i) := ⟨by simp only [candC]; omega, by simp only [candC]; omega, by simp only [candC]; omega, by simp only [candC]; omega, by simp only [candC]; omega, by simp only [candC]; omega⟩
theorem few_all : ∀ c, c ∈ allC b n → fewC c := fun c hc => by
  obtain ⟨i, hi, rfl⟩ := List.mem_map.1 hc
  exact few_C hb0 hb hn (List.mem_range.1 hi)
theorem few_rest (t0 t1 : Int) : ∀ c, c ∈ restC b t0 t1 n → fewC c := fun c hc => by
  obtain ⟨i, hi, rfl⟩ := List.mem_map.1 hc
  exact few_C hb0 hb hn (List.mem_range.1 (List.mem_filter.1 hi).1)
theorem mul_mono {i j : Nat} (h : i ≤ j) : (i : Int) * b ≤ j * b := Int.mul_le_mul_of_nonneg_right (by omega) (by omega)
theorem most_C : ∀ k : Nat, k ≤ n → mostTo (gC b) (allC b k) = k * b
  | 0, _ => by simp [mostTo, allC]
  | k + 1, hk => by
    have ih := most_C k (by omega)
    have h0 : (0 : Int) ≤ k * b := Int.mul_nonneg (by omega) (by omega)
    rw [allC_succ]
    have : mostTo (gC b) (allC b k ++ [candC b k]) = max (mostTo (gC b) (allC b k)) (whr (gC b) (candC b k)).To := by simp [mostTo]
    rw [this, ih, whr_C]
    simp only
    have : ((k + 1 : Nat) : Int) * b = k * b + b := by push_cast; rw [Int.add_mul, Int.one_mul]
    omega
theorem mem_C {l : List Nat} {x : Int} : mem x ((l.map (candC b)).map (whr (gC b))) ↔ ∃ i, i ∈ l ∧ (i : Int) * b ≤ x ∧ x < i * b + b := by
  constructor
  · rintro ⟨r, hr, hx⟩
    obtain ⟨c, hc, rfl⟩ := List.mem_map.1 hr
    obtain ⟨i, hi, rfl⟩ := List.mem_map.1 hc
    rw [whr_C] at hx
    exact ⟨i, hi, hx⟩
  · rintro ⟨i, hi, hx⟩
    exact ⟨_, List.mem_map.2 ⟨_, List.mem_map.2 ⟨i, hi, rfl⟩, rfl⟩, by rw [whr_C]; exact hx⟩
/-- Each sample ahead of the end lies in one block. -/
theorem block_of {x : Int} (h0 : 0 ≤ x) (h1 : x < n * b) : ∃ i : Nat, i < n ∧ (i : Int) * b ≤ x ∧ x < i * b + b := by
  have hd := Int.mul_ediv_add_emod x b
  have hm0 := Int.emod_nonneg x (b := b) (by omega)
  have hm1 := Int.emod_lt_of_pos x (b := b) (by omega)
  have hq : 0 ≤ x / b := Int.ediv_nonneg h0 (by omega)
  have e : b * (x / b) = ((x / b).toNat : Int) * b := by rw [Int.mul_comm]; congr 1; omega
  refine ⟨(x / b).toNat, ?_, by omega, by omega⟩
  refine Nat.lt_of_not_le fun h => ?_
  have := mul_mono hb0 hb hn h
  omega
theorem block_one {i j : Nat} {x : Int} (h1 : (i : Int) * b ≤ x) (h2 : x < i * b + b) (h3 : (j : Int) * b ≤ x) (h4 : x < j * b + b) : i = j := by
  have s : ∀ {i j : Nat}, i < j → (i : Int) * b + b ≤ j * b := fun {i j} h => by
    have := mul_mono hb0 hb hn (show i + 1 ≤ j from h)
    have e : ((i + 1 : Nat) : Int) * b = i * b + b := by push_cast; rw [Int.add_mul, Int.one_mul]
    omega
  rcases Nat.lt_trichotomy i j with h | h | h
  · have := s h; omega
  · exact h
  · have := s h; omega
end

theorem law_InferChain (b n : Int) (t : Arr2 Int) : jetsamlaw17_InferChain b n t = some true := by
  have hB : B41 = 2199023255552 := rfl
  unfold jetsamlaw17_InferChain
  simp only [awake17, Option.bind_some]
  by_cases h1 : 16 ≤ b ∧ b ≤ 200 ∧ 1 ≤ n ∧ n ≤ 20
  case neg => rw [if_pos (by simp; omega)]
  rw [if_neg (by simp; omega)]
  by_cases h2 : 0 ≤ t.a0
  case neg => rw [if_pos (by simp; omega)]
  rw [if_neg (by simp; omega)]
  by_cases h3 : t.a0 ≤ t.a1
  case neg => rw [if_pos (by simp; omega)]
  rw [if_neg (by simp; omega)]
  by_cases h4 : t.a1 ≤ n
  case neg => rw [if_pos (by simp; omega)]
  rw [if_neg (by simp; omega)]
  obtain ⟨hb0, hb, hn0, hn⟩ := h1
  obtain ⟨n, rfl⟩ := Int.eq_ofNat_of_zero_le (show 0 ≤ n by omega)
  refine iter_eq (fun a : Int × List chain_Cand × List chain_Cand => ∃ k : Nat, a.1 = k ∧ k ≤ n ∧ a.2.1 = allC b k ∧ a.2.2 = restC b t.a0 t.a1 k) (fun a => (n - a.1).toNat) _ (fun a ha => ?_) ⟨0, rfl, by omega, rfl, rfl⟩ (lt_ROUNDS (by simp only; omega))
  obtain ⟨k', l, r⟩ := a
  obtain ⟨k, rfl, hk, rfl, rfl⟩ := ha
  have hla : ∀ k, (allC b k).length = k := fun k => by simp [allC]
  have hlr : ∀ k, (restC b t.a0 t.a1 k).length ≤ k := fun k => by
    simp only [restC, List.length_map]
    exact Nat.le_trans (List.length_filter_le _ _) (by simp)
  simp only [jetsamlaw17_InferChain_L1]
  by_cases h : k < n
  · left
    have hWk : W ((k : Int) + 1) = k + 1 := W_id (by omega) (by omega)
    have hc : (⟨⟨0, 0, 0⟩, W (10 * (k : Int)), 10, k, b, false⟩ : chain_Cand) = candC b k := by rw [W_id (by omega) (by omega)]; rfl
    have := hlr k
    rw [if_pos (by simpa using h), hc, app_ok (by rw [hla]; simp; omega), Option.bind_some, ← allC_succ]
    have fin : ∀ l2, l2 = restC b t.a0 t.a1 (k + 1) → ∃ a' : Int × List chain_Cand × List chain_Cand, jetsamlaw17_InferChain_K3 ((k : Int), allC b k, restC b t.a0 t.a1 k) (allC b (k + 1), l2) = some (.inl a') ∧ (∃ q : Nat, a'.1 = q ∧ q ≤ n ∧ a'.2.1 = allC b q ∧ a'.2.2 = restC b t.a0 t.a1 q) ∧ (n - a'.1).toNat < (n - (k : Int)).toNat := fun l2 h2 => by
      subst h2
      refine ⟨_, rfl, ⟨k + 1, ?_, by omega, rfl, rfl⟩, ?_⟩
      · simp only; rw [hWk]; omega
      · simp only; rw [hWk]; omega
    rw [restC_succ] at fin
    by_cases c1 : (k : Int) < t.a0
    · rw [if_pos (by simpa using c1), app_ok (by simp; omega), Option.bind_some]
      exact fin _ (by rw [if_pos (.inl c1)])
    · rw [if_neg (by simpa using c1)]
      by_cases c2 : t.a1 ≤ (k : Int)
      · rw [if_pos (by simpa using c2), app_ok (by simp; omega), Option.bind_some]
        exact fin _ (by rw [if_pos (.inr c2)])
      · rw [if_neg (by simpa using c2)]
        exact fin _ (by rw [if_neg (by omega)]; simp)
  · right
    rw [if_neg (by simpa using h)]
    have : k = n := by omega
    subst this
    replace hn : k ≤ 20 := by omega
    have hg0 : 0 ≤ (gC b).Block := by simp only [gC]; omega
    have hg1 : (gC b).Block ≤ 1048576 := by simp only [gC]; omega
    have hkb0 : (0 : Int) ≤ k * b := Int.mul_nonneg (by omega) (by omega)
    have hkb : (k : Int) * b ≤ 4000 := by
      have : (k : Int) * b ≤ 20 * 200 := Int.mul_le_mul (by omega) hb (by omega) (by omega)
      omega
    have htot : ∀ i : info_Info, i.Params = ⟨0, 0, 0⟩ → i.Total = 0 → infer_Total i (gC b) (allC b k) = some (k * b) := fun i _ h0 => by
      obtain ⟨e, he, he0, he1⟩ := check_eq i
      rw [total_eq hg0 hg1 (by rw [hla]; omega) (few_all hb0 hb hn) (trust_eq hg0 hg1 (by rw [hla]; omega) (few_all hb0 hb hn) he he1), if_neg (by rw [h0]; omega), most_C hb0 hb hn k (Nat.le_refl _)]
    have hgC : (⟨⟨0, 0, 0⟩, false, b⟩ : chain_Guess) = gC b := rfl
    simp only [jetsamlaw17_InferChain_K1, hgC]
    rw [htot _ rfl rfl, Option.bind_some]
    have hbd : ∀ (l : List Nat), (∀ i, i ∈ l → i < k) → ∀ x, mem x ((l.map (candC b)).map (whr (gC b))) → 0 ≤ x ∧ x < k * b := fun l hl x hx => by
      obtain ⟨i, hi, g1, g2⟩ := (mem_C hb0 hb hn).1 hx
      have := mul_mono hb0 hb hn (show i + 1 ≤ k from hl i hi)
      have e : ((i + 1 : Nat) : Int) * b = i * b + b := by push_cast; rw [Int.add_mul, Int.one_mul]
      have : (0 : Int) ≤ i * b := Int.mul_nonneg (by omega) (by omega)
      omega
    have lim : ∀ l : List chain_Cand, (∀ c, c ∈ l → fewC c) → Lim (l.map (whr (gC b))) := fun l hl r hr => by
      obtain ⟨c, hcm, rfl⟩ := List.mem_map.1 hr
      have := whr_bounds hg0 hg1 (hl c hcm); omega
    have K2 : ∀ want : List infer_Range, Rise want → want.length ≤ 1 → (∀ x, mem x want ↔ t.a0 * b ≤ x ∧ x < t.a1 * b) → jetsamlaw17_InferChain_K2 b (k : Int) (allC b k, restC b t.a0 t.a1 k) (k * b) want = some true := fun want w1 w2 w3 => by
      simp only [jetsamlaw17_InferChain_K2, hgC]
      rw [W_id (by omega) (by omega), if_pos (by simp)]
      have n1 := hla k
      have n2 := hlr k
      obtain ⟨j, j1, j2, j3, j4⟩ := join_spec (l := (allC b k).map (whr (gC b))) (by simp; omega) (lim _ (few_all hb0 hb hn))
      rw [covered_eq hg0 hg1 (by omega) (few_all hb0 hb hn), j1, Option.bind_some]
      have jb : ∀ r, r ∈ j → 0 ≤ r.From ∧ r.From < r.To ∧ r.To ≤ k * b := fun r hr => rise_bounds j2 (fun x hx => hbd (List.range k) (fun i hi => List.mem_range.1 hi) x ((j3 x).1 hx)) hr
      obtain ⟨m, m1, m2, m3, m4⟩ := missing_spec (l := j) (total := k * b) (by simp at j4; omega) hkb0 (by omega) (fun r hr => by have := jb r hr; omega)
      have hm0 : m = [] := rise_none m2 fun x hx => by
        obtain ⟨hx, hn'⟩ := (m3 x).1 hx
        refine hn' ((j3 x).2 ((mem_C hb0 hb hn).2 ?_))
        obtain ⟨i, hi, g⟩ := block_of hb0 hb hn hx.1 hx.2
        exact ⟨i, List.mem_range.2 hi, g⟩
      subst hm0
      rw [m1, Option.bind_some, if_pos (by simp)]
      obtain ⟨j', j1', j2', j3', j4'⟩ := join_spec (l := (restC b t.a0 t.a1 k).map (whr (gC b))) (by simp; omega) (lim _ (few_rest hb0 hb hn _ _))
      rw [covered_eq hg0 hg1 (by omega) (few_rest hb0 hb hn _ _), j1', Option.bind_some]
      have jb' : ∀ r, r ∈ j' → 0 ≤ r.From ∧ r.From < r.To ∧ r.To ≤ k * b := fun r hr => rise_bounds j2' (fun x hx => hbd _ (fun i hi => List.mem_range.1 (List.mem_filter.1 hi).1) x ((j3' x).1 hx)) hr
      obtain ⟨m', m1', m2', m3', m4'⟩ := missing_spec (l := j') (total := k * b) (by simp at j4'; omega) hkb0 (by omega) (fun r hr => by have := jb' r hr; omega)
      obtain ⟨s, hs⟩ := Int.eq_ofNat_of_zero_le h2
      obtain ⟨u, hu⟩ := Int.eq_ofNat_of_zero_le (show 0 ≤ t.a1 by omega)
      rw [hs, hu] at w3
      have e : m' = want := rise_unique _ _ m2' w1 fun x => by
        rw [m3', j3', w3, restC, mem_C hb0 hb hn, hs, hu]
        simp only [List.mem_filter, List.mem_range, decide_eq_true_eq]
        have hsu : s ≤ u := by omega
        have huk : u ≤ k := by omega
        have s0 : (0 : Int) ≤ s * b := Int.mul_nonneg (by omega) (by omega)
        have su : (u : Int) * b ≤ k * b := mul_mono hb0 hb hn huk
        constructor
        · rintro ⟨hx, hno⟩
          obtain ⟨i, hi, g1, g2⟩ := block_of hb0 hb hn hx.1 hx.2
          have hi2 : s ≤ i ∧ i < u := by
            refine Classical.not_not.1 fun hc => hno ⟨i, ⟨hi, by omega⟩, g1, g2⟩
          have q1 := mul_mono hb0 hb hn hi2.1
          have q2 := mul_mono hb0 hb hn (show i + 1 ≤ u from hi2.2)
          have e : ((i + 1 : Nat) : Int) * b = i * b + b := by push_cast; rw [Int.add_mul, Int.one_mul]
          omega
        · rintro ⟨g1, g2⟩
          refine ⟨by omega, ?_⟩
          rintro ⟨i, ⟨hi, hc⟩, q1, q2⟩
          rcases hc with hc | hc
          · have := mul_mono hb0 hb hn (show i + 1 ≤ s by omega)
            have e : ((i + 1 : Nat) : Int) * b = i * b + b := by push_cast; rw [Int.add_mul, Int.one_mul]
            omega
          · have := mul_mono hb0 hb hn (show u ≤ i by omega)
            omega
      subst e
      rw [m1', Option.bind_some, ranges_same _ (by omega), Option.bind_some, if_pos rfl, awake17]
      rfl
    have bm : ∀ (z : Int), 0 ≤ z → z ≤ 20 → 0 ≤ b * z ∧ b * z ≤ 4000 := fun z z0 z1 => by
      refine ⟨Int.mul_nonneg (by omega) z0, ?_⟩
      have : b * z ≤ 200 * 20 := Int.mul_le_mul hb z1 z0 (by omega)
      omega
    have b0 := bm t.a0 h2 (by omega)
    have b1 := bm t.a1 (by omega) (by omega)
    by_cases hlt : t.a0 < t.a1
    · rw [if_pos (by simpa using hlt), app_ok (by simp), Option.bind_some, W_id (by omega) (by omega), W_id (by omega) (by omega), K2]
      · rfl
      · refine ⟨?_, fun q hq => by simp at hq, trivial⟩
        simp only
        have : b * (t.a0 + 1) ≤ b * t.a1 := Int.mul_le_mul_of_nonneg_left (by omega) (by omega)
        rw [Int.mul_add] at this
        omega
      · simp
      · intro x
        rw [List.nil_append, mem_one, Int.mul_comm t.a0, Int.mul_comm t.a1]; rfl
    · rw [if_neg (by simpa using hlt), K2 [] trivial (by simp)]
      · rfl
      · intro x
        have : t.a0 = t.a1 := by omega
        rw [this]
        exact ⟨fun h => absurd h mem_nil, fun h => by omega⟩
end Go.Vg
