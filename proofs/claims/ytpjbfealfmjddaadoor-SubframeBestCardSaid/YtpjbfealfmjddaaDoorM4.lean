/- The best plan is the reference's: the plain reckoning. -/
import Derived.Test.YtpjbfealfmjddaaDoorM3
set_option maxRecDepth 4000
set_option linter.all false
set_option linter.unusedVariables false
set_option linter.unusedSimpArgs false
namespace Go.Vg

theorem rfits_spec {n : Nat} {l : List Int} (h1 : 1 ≤ n) (hn : n ≤ 48) (hl : l.length < 2 ^ 40) : ∃ b, jetsamref07_Fits (n : Int) l = some b ∧ (b = true ↔ FitsP n l) := by
  unfold jetsamref07_Fits
  have e1 : W ((n : Int) - 1) = ((n - 1 : Nat) : Int) := by rw [W_id (by omega) (by omega)]; omega
  have hp : (2 : Nat) ^ (n - 1) ≤ 2 ^ 47 := pow_le (by omega)
  have hc := pow_cast (n - 1)
  have hq := pow_posI (n - 1)
  have e2 : W (0 - ((2 ^ (n - 1) : Nat) : Int)) = -(2 : Int) ^ (n - 1) := by rw [W_id (by omega) (by omega)]; omega
  refine Exists.elim (iter_for (step := jetsamref07_Fits_L1 (n : Int) l) l.length (fun i a => a = (i : Int) ∧ ∀ x, x ∈ l.take i → -(2 : Int) ^ (n - 1) ≤ x ∧ x < (2 : Int) ^ (n - 1)) (fun b => b = true ↔ FitsP n l) (by omega) (fun i a hi ha => ?_) (fun a ha => ?_) (a0 := 0) ⟨rfl, fun x hx => by simp at hx⟩) (fun r hr => ⟨r, hr⟩)
  · obtain ⟨rfl, hall⟩ := ha
    unfold jetsamref07_Fits_L1 jetsamref07_Fits_K2
    rw [if_pos (by simpa using hi), idx_nat hi, e1, pow_shl (by omega), e2]
    simp only [Option.bind_some]
    rw [need_ok (by simp), need_ok (by simp)]
    by_cases hx : l[i] < -(2 : Int) ^ (n - 1)
    · rw [if_pos (by simpa using hx), if_pos trivial]
      refine .inr ⟨_, rfl, fun h => (nomatch h), fun h => ?_⟩
      have := (h _ (List.getElem_mem hi)).1
      omega
    · rw [if_neg (by simpa using hx), hc]
      by_cases hx2 : l[i] ≥ (2 : Int) ^ (n - 1)
      · rw [if_pos (by simpa using hx2)]
        refine .inr ⟨_, rfl, fun h => (nomatch h), fun h => ?_⟩
        have := (h _ (List.getElem_mem hi)).2
        omega
      · rw [if_neg (by simpa using hx2)]
        refine .inl ⟨_, rfl, W_succ (by omega), fun x hx' => ?_⟩
        rw [List.take_succ_eq_append_getElem hi] at hx'
        rcases List.mem_append.1 hx' with hx' | hx'
        · exact hall x hx'
        · rw [List.mem_singleton] at hx'; subst hx'; omega
  · obtain ⟨rfl, hall⟩ := ha
    unfold jetsamref07_Fits_L1 jetsamref07_Fits_K1
    rw [if_neg (by simp)]
    rw [List.take_length] at hall
    exact ⟨_, rfl, fun _ => hall, fun _ => rfl⟩
theorem dv_iff {n : Nat} {x : Int} : Dv n x ↔ x = x / 2 ^ n * 2 ^ n := by
  unfold Dv
  have h2 := Int.emod_add_ediv_mul x (2 ^ n)
  omega
theorem rless_spec {n : Nat} {l : List Int} (hn : n ≤ 48) (hl : l.length < 2 ^ 40) (hb : ∀ x, x ∈ l → -1099511627776 ≤ x ∧ x ≤ 1099511627776) : ∃ m b, jetsamref07_Less (n : Int) l = some (m, b) ∧ (b = true → m = l.map (· / 2 ^ n)) ∧ (b = true ↔ ∀ x, x ∈ l → Dv n x) := by
  unfold jetsamref07_Less
  have hp := pow_posI n
  have hpc := pow_cast n
  refine Exists.elim (iter_for (step := jetsamref07_Less_L1 (n : Int) l) l.length (fun i a => a = ((i : Int), (l.take i).map (· / 2 ^ n)) ∧ ∀ x, x ∈ l.take i → Dv n x) (fun r => (r.2 = true → r.1 = l.map (· / 2 ^ n)) ∧ (r.2 = true ↔ ∀ x, x ∈ l → Dv n x)) (by omega) (fun i a hi ha => ?_) (fun a ha => ?_) (a0 := (0, [])) ⟨rfl, fun x hx => by simp at hx⟩) (fun r hr => ⟨r.1, r.2, hr⟩)
  · obtain ⟨rfl, hall⟩ := ha
    unfold jetsamref07_Less_L1
    have hne : ((((2 ^ n : Nat) : Int)) != 0) = true := by rw [bne_iff_ne]; omega
    rw [if_pos (by simpa using hi), idx_nat hi, pow_shl (by omega)]
    simp only [Option.bind_some]
    rw [need_ok (by simp), need_ok hne, need_ok (by simp), need_ok hne, hpc]
    have hx := hb _ (List.getElem_mem hi)
    by_cases hz : Dv n l[i]
    · have hd : (2 : Int) ^ n ∣ l[i] := Int.dvd_of_emod_eq_zero hz
      have e1 : l[i].tmod (2 ^ n) = 0 := Int.tmod_eq_zero_of_dvd hd
      have e2 : l[i].tdiv (2 ^ n) = l[i] / 2 ^ n := Int.tdiv_eq_ediv_of_dvd hd
      rw [e1, e2, if_neg (by decide)]
      have b1 : -1099511627776 ≤ l[i] / 2 ^ n := by
        refine Int.le_ediv_of_mul_le hp ?_
        have := Int.mul_le_mul_of_nonneg_left (show (1 : Int) ≤ 2 ^ n by omega) (show (0 : Int) ≤ 1099511627776 by decide)
        omega
      have b2 : l[i] / 2 ^ n ≤ 1099511627776 := by
        refine Int.ediv_le_of_le_mul hp ?_
        have := Int.mul_le_mul_of_nonneg_left (show (1 : Int) ≤ 2 ^ n by omega) (show (0 : Int) ≤ 1099511627776 by decide)
        omega
      rw [W_id (by omega) (by omega), app_ok (by simp; omega)]
      refine .inl ⟨_, rfl, ?_, fun x hx => ?_⟩
      · rw [W_succ (by omega), List.take_succ_eq_append_getElem hi, List.map_append]; rfl
      · rw [List.take_succ_eq_append_getElem hi] at hx
        rcases List.mem_append.1 hx with hx | hx
        · exact hall x hx
        · rw [List.mem_singleton] at hx; subst hx; exact hz
    · rw [if_pos]
      · exact .inr ⟨_, rfl, fun h => (nomatch h), fun h => (nomatch h), fun h => absurd (h _ (List.getElem_mem hi)) hz⟩
      · rw [bne_iff_ne]
        intro h
        exact hz (Int.emod_eq_zero_of_dvd (Int.dvd_of_tmod_eq_zero h))
  · obtain ⟨rfl, hall⟩ := ha
    unfold jetsamref07_Less_L1 jetsamref07_Less_K1
    rw [if_neg (by simp)]
    rw [List.take_length] at *
    exact ⟨_, rfl, fun _ => rfl, fun _ => hall, fun _ => rfl⟩
theorem rwasted_spec {l : List Int} {w : Nat} (hl : l.length < 2 ^ 40) (hb : ∀ x, x ∈ l → -1099511627776 ≤ x ∧ x ≤ 1099511627776) (hw : w ≤ 32) (h1 : ∀ x, x ∈ l → Dv w x) (h2 : (∀ x, x ∈ l → x = 0) → w = 0) (h3 : ∀ x, x ∈ l → x ≠ 0 → ∃ y, y ∈ l ∧ ¬ Dv (w + 1) y) : jetsamref07_Wasted l = some (w : Int) := by
  unfold jetsamref07_Wasted
  have hmono : ∀ i x, i ≤ w → Dv w x → Dv i x := by
    intro i x hi hx
    unfold Dv at *
    have e : (2 : Int) ^ w = 2 ^ i * 2 ^ (w - i) := by rw [← Int.pow_add]; congr 1; omega
    have hd : (2 : Int) ^ w ∣ x := Int.dvd_of_emod_eq_zero hx
    rw [e] at hd
    exact Int.emod_eq_zero_of_dvd (Int.dvd_trans (Int.dvd_mul_right _ _) hd)
  -- is one of a list not 0?
  have hL2 : ∀ (i : Int) (r3 : List Int × Bool), r3.1.length < 2 ^ 40 → iter (jetsamref07_Wasted_L2 i r3) (false, 0) = jetsamref07_Wasted_K2 i (r3.1.any fun x => x != 0) := by
    intro i r3 hr
    have hK : ∀ b, ∃ R, jetsamref07_Wasted_K2 i b = some R := fun b => by cases b <;> exact ⟨_, rfl⟩
    obtain ⟨R, hR⟩ := hK (r3.1.any fun x => x != 0)
    rw [hR]
    refine Exists.elim (iter_for (step := jetsamref07_Wasted_L2 i r3) r3.1.length (fun j a => a = ((r3.1.take j).any (fun x => x != 0), (j : Int))) (fun r => r = R) (by omega) (fun j a hj ha => ?_) (fun a ha => ?_) (a0 := (false, 0)) rfl) (fun r hr => by rw [hr.1, hr.2])
    · subst ha
      left
      unfold jetsamref07_Wasted_L2
      rw [if_pos (by simpa using hj)]
      have ht : (r3.1.take (j + 1)).any (fun x => x != 0) = ((r3.1.take j).any (fun x => x != 0) || (r3.1[j] != 0)) := by
        rw [List.take_succ_eq_append_getElem hj, List.any_append]; simp
      rw [ht]
      cases hc : (r3.1.take j).any (fun x => x != 0) with
      | true => rw [if_pos rfl]; exact ⟨_, rfl, by rw [W_succ (by omega)]; rfl⟩
      | false =>
        rw [if_neg (by simp)]
        simp only [idx_nat hj, Option.bind_some]
        exact ⟨_, rfl, by rw [W_succ (by omega)]; rfl⟩
    · subst ha
      unfold jetsamref07_Wasted_L2
      rw [if_neg (by simp), List.take_length]
      simp only [hR]
      exact ⟨_, rfl, rfl⟩
  refine Exists.elim (iter_for (step := jetsamref07_Wasted_L1 l) w (fun i a => a = (i : Int)) (fun r => r = (w : Int)) (by omega) (fun i a hi ha => ?_) (fun a ha => ?_) (a0 := 0) rfl) (fun r hr => by rw [hr.1, hr.2])
  · subst ha
    left
    unfold jetsamref07_Wasted_L1
    rw [if_pos (by rw [decide_eq_true_eq]; omega), W_succ (by omega)]
    obtain ⟨m, b, g1, g2, g3⟩ := rless_spec (n := i + 1) (l := l) (by omega) hl hb
    have hbt := g3.2 fun x hx => hmono (i + 1) x hi (h1 x hx)
    have hm := g2 hbt
    rw [g1, hbt]
    simp only [Option.bind_some]
    rw [if_neg (by decide), hL2 _ _ (by rw [hm]; simpa using hl)]
    obtain ⟨x, hx, hx0⟩ : ∃ x, x ∈ l ∧ x ≠ 0 := Classical.byContradiction fun hc => by
      have := h2 fun x hx => Classical.byContradiction fun h => hc ⟨x, hx, h⟩
      omega
    have : (m.any fun x => x != 0) = true := by
      rw [List.any_eq_true]
      refine ⟨x / 2 ^ (i + 1), by rw [hm]; exact List.mem_map.2 ⟨x, hx, rfl⟩, ?_⟩
      rw [bne_iff_ne]
      intro h
      have := dv_iff.1 (hmono (i + 1) x hi (h1 x hx))
      rw [h, Int.zero_mul] at this
      exact hx0 this
    rw [this]
    unfold jetsamref07_Wasted_K2
    exact ⟨_, rfl, W_succ (by omega)⟩
  · subst ha
    unfold jetsamref07_Wasted_L1
    rw [if_pos (by rw [decide_eq_true_eq]; omega), W_succ (by omega)]
    obtain ⟨m, b, g1, g2, g3⟩ := rless_spec (n := w + 1) (l := l) (by omega) hl hb
    rw [g1]
    simp only [Option.bind_some]
    by_cases hz : ∀ x, x ∈ l → x = 0
    · have hbt := g3.2 fun x hx => by rw [hz x hx]; exact Int.zero_emod _
      have hm := g2 hbt
      rw [hbt, if_neg (by decide), hL2 _ _ (by rw [hm]; simpa using hl)]
      have : (m.any fun x => x != 0) = false := by
        rw [List.any_eq_false]
        intro x hx
        rw [hm] at hx
        obtain ⟨y, hy, rfl⟩ := List.mem_map.1 hx
        rw [hz y hy]
        simp
      rw [this]
      unfold jetsamref07_Wasted_K2
      exact ⟨_, rfl, by rw [h2 hz]; rfl⟩
    · obtain ⟨x, hx, hx0⟩ : ∃ x, x ∈ l ∧ x ≠ 0 := Classical.byContradiction fun hc => hz fun x hx => Classical.byContradiction fun h => hc ⟨x, hx, h⟩
      obtain ⟨y, hy, hny⟩ := h3 x hx hx0
      have hbf : b = false := by
        cases b with
        | false => rfl
        | true => exact absurd (g3.1 rfl y hy) hny
      rw [hbf, if_pos (by decide)]
      exact ⟨_, rfl, rfl⟩

/-- What a sample is told to be, added up. -/
def accW (cs l : List Int) : Nat → Int
  | 0 => 0
  | i + 1 => W (accW cs l i + W (cs.getD i 0 * l.getD (l.length - 1 - i) 0))
theorem accW_range (cs l : List Int) (i : Nat) : -9223372036854775808 ≤ accW cs l i ∧ accW cs l i ≤ 9223372036854775807 := by
  cases i with
  | zero => exact ⟨(by decide : (-9223372036854775808 : Int) ≤ 0), (by decide : (0 : Int) ≤ 9223372036854775807)⟩
  | succ i =>
    unfold accW
    rw [show W = fun x => IntKind.i64.wrap x from rfl]
    simp only [wrap_i64']
    omega
theorem told_acc {p : predict_Linear} {l : List Int} (hl : l.length < 2 ^ 40) (hc : p.Coefs.length ≤ l.length) {s : Nat} (hs : p.Shift = (s : Int)) (hs2 : s ≤ 15) : predict_Linear_told p l = some (accW p.Coefs l p.Coefs.length / 2 ^ s) := by
  unfold predict_Linear_told
  have e1 : W ((l.length : Int) - (p.Coefs.length : Int)) = ((l.length - p.Coefs.length : Nat) : Int) := by rw [W_id (by omega) (by omega)]; omega
  rw [e1, sub_ok (by omega) (by omega)]
  simp only [Option.bind_some, predict_back, backF]
  have hdl : ((l.drop (l.length - p.Coefs.length)).take (l.length - (l.length - p.Coefs.length))).length = p.Coefs.length := by simp; omega
  have hget : ∀ i, i < p.Coefs.length → ((l.drop (l.length - p.Coefs.length)).take (l.length - (l.length - p.Coefs.length))).getD (p.Coefs.length - 1 - i) 0 = l.getD (l.length - 1 - i) 0 := by
    intro i hi
    simp only [List.getD]
    rw [List.getElem?_take, if_pos (by omega), List.getElem?_drop]
    congr 2
    omega
  generalize hL : (l.drop (l.length - p.Coefs.length)).take (l.length - (l.length - p.Coefs.length)) = L at *
  unfold backN
  obtain ⟨x, hx, h2⟩ := foldR_range (step := predict_Linear_told_L1 p) (done := predict_Linear_told_K2 p) (ret := fun b => nomatch b) L.length (fun (i : Nat) => (Int.ofNat i, L.getD (L.length - 1 - i) 0)) (fun i a => a = accW p.Coefs l i) (fun i a hi ha => by
    subst ha
    unfold predict_Linear_told_L1
    have hi' : i < p.Coefs.length := by omega
    simp only [Int.ofNat_eq_natCast, idx_nat hi', Option.bind_some]
    refine ⟨_, rfl, ?_⟩
    have e2 : p.Coefs.getD i 0 = p.Coefs[i] := by simp [List.getD, hi']
    rw [hdl, hget i hi']
    show _ = W (accW p.Coefs l i + W (p.Coefs.getD i 0 * l.getD (l.length - 1 - i) 0))
    rw [e2]) (x0 := 0) rfl
  have hK : predict_Linear_told_K2 p x = some (x / 2 ^ s) := by
    unfold predict_Linear_told_K2 predict_Linear_told_K1
    rw [need_ok (by simp [hs]), hs, shr_int _ (by omega)]
  rw [hx, hdl] at hK
  rw [← hK, ← hdl, ← hx]
  exact h2
theorem rtold_acc {q : jetsamref06_Linear} {l : List Int} (hl : l.length < 2 ^ 40) (hc2 : q.Coefs.length ≤ 32) (hc : q.Coefs.length ≤ l.length) {s : Nat} (hs : q.Shift = (s : Int)) (hs2 : s ≤ 15) : jetsamref06_Told q l = some (accW q.Coefs l q.Coefs.length / 2 ^ s) := by
  unfold jetsamref06_Told
  have hp := pow_posI s
  have hpl : (2 : Nat) ^ s ≤ 2 ^ 15 := pow_le hs2
  have hpc := pow_cast s
  have hne : ((((2 ^ s : Nat) : Int)) != 0) = true := by rw [bne_iff_ne]; omega
  have hK : ∀ j : Int, -9223372036854775808 ≤ j → j ≤ 9223372036854775807 → jetsamref06_Told_K1 q j = some (j / 2 ^ s) := by
    intro j j1 j2
    unfold jetsamref06_Told_K1 jetsamref06_Told_K2
    rw [hs, pow_shl (by omega), need_ok (by simp), need_ok hne, hpc]
    have hdm := Int.tdiv_mul_add_tmod j (2 ^ s)
    have hfl := Int.ediv_mul_add_emod j (2 ^ s)
    have hm0 := Int.emod_nonneg j (Int.ne_of_gt hp)
    have hm1 := Int.emod_lt_of_pos j hp
    generalize hP : (2 : Int) ^ s = P at *
    have hP1 : 1 ≤ P := by omega
    have key : (0 ≤ j ∧ j.tdiv P = j / P) ∨ (j < 0 ∧ (j.tdiv P = j / P ∧ j % P = 0 ∨ j.tdiv P = j / P + 1 ∧ j % P ≠ 0)) := by
      rcases Int.lt_or_le j 0 with h | h
      · right
        refine ⟨h, ?_⟩
        by_cases hz : j % P = 0
        · left
          exact ⟨Int.tdiv_eq_ediv_of_dvd (Int.dvd_of_emod_eq_zero hz), hz⟩
        · right
          refine ⟨?_, hz⟩
          have := Int.tdiv_eq_ediv (a := j) (b := P)
          rw [if_neg (by
            intro hh
            rcases hh with hh | hh
            · omega
            · exact hz (Int.emod_eq_zero_of_dvd hh))] at this
          rw [this, Int.sign_eq_one_of_pos hp]
      · exact .inl ⟨h, Int.tdiv_eq_ediv_of_nonneg h⟩
    have hq1 : -9223372036854775808 ≤ j / P := by
      refine Int.le_ediv_of_mul_le hp ?_
      have := Int.mul_le_mul_of_nonneg_left hP1 (show (0 : Int) ≤ 9223372036854775808 by decide)
      omega
    have hq2 : j / P ≤ 9223372036854775807 := by
      refine Int.ediv_le_of_le_mul hp ?_
      have := Int.mul_le_mul_of_nonneg_left hP1 (show (0 : Int) ≤ 9223372036854775807 by decide)
      omega
    rcases key with ⟨h0, e⟩ | ⟨h0, ⟨e, hz⟩ | ⟨e, hz⟩⟩
    · rw [e, W_id (x := j / P) hq1 hq2, W_id (x := j / P * P) (by omega) (by omega), if_neg (by rw [decide_eq_true_eq]; omega)]
    · rw [e, W_id (x := j / P) hq1 hq2, W_id (x := j / P * P) (by omega) (by omega), if_neg (by rw [decide_eq_true_eq]; omega)]
    · have hneg : j / P + 1 ≤ 0 := by
        have : j / P < 0 := Int.ediv_neg_of_neg_of_pos h0 hp
        omega
      have e3 : (j / P + 1) * P = j / P * P + P := by rw [Int.add_mul, Int.one_mul]
      have hle : (j / P + 1) * P ≤ 0 := Int.mul_nonpos_of_nonpos_of_nonneg hneg (by omega)
      rw [e, W_id (x := j / P + 1) (by omega) (by omega), W_id (x := (j / P + 1) * P) (by omega) (by omega), if_pos (by rw [decide_eq_true_eq]; omega), W_id (by omega) (by omega)]
      congr 1
      omega
  refine Exists.elim (iter_for (step := jetsamref06_Told_L1 q l) q.Coefs.length (fun i a => a = (accW q.Coefs l i, (i : Int))) (fun r => r = accW q.Coefs l q.Coefs.length / 2 ^ s) (by omega) (fun i a hi ha => ?_) (fun a ha => ?_) (a0 := (0, 0)) rfl) (fun r hr => by rw [hr.1, hr.2])
  · subst ha
    left
    unfold jetsamref06_Told_L1
    have e : W ((W ((l.length : Int) - 1)) - (i : Int)) = ((l.length - 1 - i : Nat) : Int) := by rw [W_id (x := (l.length : Int) - 1) (by omega) (by omega), W_id (by omega) (by omega)]; omega
    rw [if_pos (by simpa using hi), idx_nat hi, e, idx_nat (l := l) (i := l.length - 1 - i) (by omega)]
    simp only [Option.bind_some]
    refine ⟨_, rfl, ?_⟩
    have e2 : q.Coefs.getD i 0 = q.Coefs[i] := by simp [List.getD, hi]
    have e3 : l.getD (l.length - 1 - i) 0 = l[l.length - 1 - i]'(by omega) := by simp [List.getD, show l.length - 1 - i < l.length by omega]
    rw [W_succ (by omega)]
    show _ = (W (accW q.Coefs l i + W (q.Coefs.getD i 0 * l.getD (l.length - 1 - i) 0)), _)
    rw [e2, e3]
  · subst ha
    unfold jetsamref06_Told_L1
    rw [if_neg (by simp)]
    obtain ⟨r1, r2⟩ := accW_range q.Coefs l q.Coefs.length
    simp only [hK _ r1 r2]
    exact ⟨_, rfl, rfl⟩
end Go.Vg

namespace Go.Vg

/-- What samples are more than they are told to be. -/
def residL (cs : List Int) (s : Nat) (l : List Int) : List Int := (List.range (l.length - cs.length)).map fun i => W (l.getD (cs.length + i) 0 - accW cs (l.take (cs.length + i)) cs.length / 2 ^ s)
theorem residL_len (cs : List Int) (s : Nat) (l : List Int) : (residL cs s l).length = l.length - cs.length := by simp [residL]
theorem residL_get {cs : List Int} {s : Nat} {l : List Int} {i : Nat} (h : i + cs.length < l.length) : (residL cs s l)[i]? = some (W (l.getD (cs.length + i) 0 - accW cs (l.take (cs.length + i)) cs.length / 2 ^ s)) := by
  unfold residL
  rw [List.getElem?_map, List.getElem?_range (by omega)]
  rfl
theorem getD_some {l : List Int} {i : Nat} (h : i < l.length) : l.getD i 0 = l[i] := by simp [List.getD, h]
theorem resid_spec {p : predict_Linear} {l : List Int} (hl : l.length < 2 ^ 40) (hp : LinOk p) (hc : p.Coefs.length ≤ l.length) (hm : MayP l) : predict_Residual p l = some (residL p.Coefs p.Shift.toNat l, 0) := by
  have h32 := hp.len
  obtain ⟨d, c, h1, h2, h3⟩ := residual_spec (p := p) (l := l) hl (by omega)
  have hc0 := h3 hp hc hm
  obtain ⟨_, _, _, g4, g5⟩ := h2 hc0
  rw [h1, hc0]
  refine congrArg (fun z => some (z, (0 : Int))) ?_
  obtain ⟨s, hs⟩ := Int.eq_ofNat_of_zero_le hp.s1
  have hs2 := hp.s2
  apply List.ext_getElem?
  intro i
  by_cases hi : i + p.Coefs.length < l.length
  · obtain ⟨t, a1, a2⟩ := g5 i _ hi (List.getElem?_eq_getElem (by omega))
    rw [told_acc (s := s) (by simp; omega) (by simp; omega) hs (by omega)] at a1
    cases a1
    rw [a2, residL_get hi, getD_some (by omega), hs]
    rfl
  · rw [List.getElem?_eq_none (by omega), List.getElem?_eq_none (by rw [residL_len]; omega)]
theorem rcheck6_conv {q : jetsamref06_Linear} {p : predict_Linear} (h1 : q.Precision = p.Precision) (h2 : q.Shift = p.Shift) (h3 : q.Coefs = p.Coefs) (hp : LinOk p) : jetsamref06_Check q = some 0 := by
  have a1 := hp.len; have a2 := hp.p1; have a3 := hp.p2; have a4 := hp.s1; have a5 := hp.s2; have hf := hp.fit
  rw [← h1] at a2 a3 hf
  rw [← h2] at a4 a5
  rw [← h3] at a1 hf
  unfold jetsamref06_Check
  rw [ite_or, ite_or, ite_or, ite_or, if_neg (by simp only [Bool.or_eq_true, decide_eq_true_eq]; omega)]
  have e1 : W (q.Precision - 1) = ((q.Precision.toNat - 1 : Nat) : Int) := by rw [W_id (by omega) (by omega)]; omega
  have hpl : (2 : Nat) ^ (q.Precision.toNat - 1) ≤ 2 ^ 14 := pow_le (by omega)
  have hpc := pow_cast (q.Precision.toNat - 1)
  have hpp := pow_posI (q.Precision.toNat - 1)
  have e2 : W (0 - ((2 ^ (q.Precision.toNat - 1) : Nat) : Int)) = -(2 : Int) ^ (q.Precision.toNat - 1) := by rw [W_id (by omega) (by omega)]; omega
  refine Exists.elim (iter_for (step := jetsamref06_Check_L1 q) q.Coefs.length (fun i a => a = (i : Int)) (fun r => r = 0) (by omega) (fun i a hi ha => ?_) (fun a ha => ?_) (a0 := 0) rfl) (fun r hr => by rw [hr.1, hr.2])
  · subst ha
    left
    unfold jetsamref06_Check_L1 jetsamref06_Check_K2
    have hx := hf _ (List.getElem_mem hi)
    rw [if_pos (by simpa using hi), idx_nat hi, e1, pow_shl (by omega), e2]
    simp only [Option.bind_some]
    rw [need_ok (by simp), need_ok (by simp), if_neg (by rw [decide_eq_true_eq]; omega), hpc, if_neg (by rw [decide_eq_true_eq]; omega)]
    exact ⟨_, rfl, W_succ (by omega)⟩
  · subst ha
    unfold jetsamref06_Check_L1
    rw [if_neg (by simp)]
    exact ⟨_, rfl, rfl⟩
theorem rresid_spec {q : jetsamref06_Linear} {p : predict_Linear} {l : List Int} (h1 : q.Precision = p.Precision) (h2 : q.Shift = p.Shift) (h3 : q.Coefs = p.Coefs) (hl : l.length < 2 ^ 40) (hp : LinOk p) (hc : p.Coefs.length ≤ l.length) (hm : MayP l) : jetsamref06_Residual q l = some (residL p.Coefs p.Shift.toNat l, 0) := by
  have h32 := hp.len
  obtain ⟨s, hs⟩ := Int.eq_ofNat_of_zero_le hp.s1
  have hs2 := hp.s2
  have es : p.Shift.toNat = s := by omega
  unfold jetsamref06_Residual
  rw [rcheck6_conv h1 h2 h3 hp]
  simp only [Option.bind_some]
  rw [if_neg (by decide), h3, if_neg (by simp; omega), es]
  refine Exists.elim (iter_for (step := jetsamref06_Residual_L1 q l) l.length (fun i a => a = ((i : Int), (residL p.Coefs s l).take (i - p.Coefs.length))) (fun r => r = (residL p.Coefs s l, 0)) (by omega) (fun i a hi ha => ?_) (fun a ha => ?_) (a0 := (0, [])) (by simp)) (fun r hr => by rw [hr.1, hr.2])
  · subst ha
    left
    unfold jetsamref06_Residual_L1 jetsamref06_Residual_K2 jetsamref06_may
    have hmx := hm _ (List.getElem_mem hi)
    have hmay : (if decide (l[i] ≥ -4294967296) = true then decide (l[i] < 4294967296) else false) = true := by
      rw [ite_and, Bool.and_eq_true, decide_eq_true_eq, decide_eq_true_eq]; omega
    rw [if_pos (by simpa using hi), idx_nat hi]
    simp only [Option.bind_some, hmay]
    rw [if_neg (by decide), h3]
    by_cases hge : p.Coefs.length ≤ i
    · have hsub : sub l 0 (i : Int) = some ((l.drop 0).take (i - 0)) := sub_ok (i := 0) (by omega) (by omega)
      rw [if_pos (by rw [decide_eq_true_eq]; omega), hsub]
      simp only [Option.bind_some, List.drop_zero, Nat.sub_zero]
      rw [rtold_acc (q := q) (s := s) (by simp; omega) (by rw [h3]; exact h32) (by rw [h3]; simp; omega) (by rw [h2]; exact hs) (by omega), h3]
      simp only [Option.bind_some]
      have hlt : i - p.Coefs.length < (residL p.Coefs s l).length := by rw [residL_len]; omega
      rw [app_ok (by simp [residL_len]; omega)]
      simp only [Option.bind_some]
      refine ⟨_, rfl, ?_⟩
      rw [W_succ (by omega), show i + 1 - p.Coefs.length = (i - p.Coefs.length) + 1 by omega, List.take_succ_eq_append_getElem hlt]
      have e := residL_get (cs := p.Coefs) (s := s) (l := l) (i := i - p.Coefs.length) (by omega)
      rw [List.getElem?_eq_getElem hlt] at e
      rw [Option.some.inj e, show p.Coefs.length + (i - p.Coefs.length) = i by omega, getD_some hi]
    · rw [if_neg (by rw [decide_eq_true_eq]; omega)]
      refine ⟨_, rfl, ?_⟩
      rw [W_succ (by omega), show i + 1 - p.Coefs.length = 0 by omega, show i - p.Coefs.length = 0 by omega]
  · subst ha
    unfold jetsamref06_Residual_L1 jetsamref06_Residual_K1
    rw [if_neg (by simp)]
    refine ⟨_, rfl, ?_⟩
    rw [List.take_of_length_le (by rw [residL_len]; omega)]

/-! ### The best fixed order -/
def sumW (d : List Int) : Nat → Int
  | 0 => 0
  | i + 1 => W (sumW d i + (if W (0 - d.getD i 0) > d.getD i 0 then W (0 - d.getD i 0) else d.getD i 0))
def bestN (f : Nat → Int) : Nat → Int × Int
  | 0 => (0, -1)
  | i + 1 => if (bestN f i).2 < 0 ∨ f i < (bestN f i).2 then ((i : Int), f i) else bestN f i
theorem bestN_succ (f : Nat → Int) (i : Nat) : bestN f (i + 1) = if (bestN f i).2 < 0 ∨ f i < (bestN f i).2 then ((i : Int), f i) else bestN f i := rfl
def fixedC (o : Nat) : List Int := match o with
  | 0 => [] | 1 => [1] | 2 => [2, -1] | 3 => [3, -3, 1] | _ => [4, -6, 4, -1]
theorem fixed_is {o : Nat} (h : o ≤ 4) : predict_Fixed (o : Int) = some (⟨4, 0, fixedC o⟩, 0) ∧ (fixedC o).length = o ∧ jetsamref07_Coefs (o : Int) = some ⟨4, 0, fixedC o⟩ := by
  rcases (show o = 0 ∨ o = 1 ∨ o = 2 ∨ o = 3 ∨ o = 4 by omega) with rfl | rfl | rfl | rfl | rfl <;> exact ⟨rfl, rfl, rfl⟩
def bestF (l : List Int) (o : Nat) : Int := sumW (residL (fixedC o) 0 l) (residL (fixedC o) 0 l).length
theorem resid_fixed {i : Nat} {l : List Int} (hi : i ≤ 4) (hc : i ≤ l.length) (hl : l.length < 2 ^ 40) (hm : MayP l) : predict_Residual ⟨4, 0, fixedC i⟩ l = some (residL (fixedC i) 0 l, 0) := by
  obtain ⟨f1, f2, _⟩ := fixed_is hi
  have hL : LinOk ⟨4, 0, fixedC i⟩ := fixed_lin hi f1
  have hcl : (⟨4, 0, fixedC i⟩ : predict_Linear).Coefs.length ≤ l.length := by
    have e : (⟨4, 0, fixedC i⟩ : predict_Linear).Coefs = fixedC i := rfl
    rw [e, f2]; exact hc
  exact resid_spec hl hL hcl hm
theorem pbest_is {l : List Int} (h0 : 0 < l.length) (hl : l.length < 2 ^ 40) (hm : MayP l) : predict_Best l = some (bestN (bestF l) (min 5 l.length)).1 := by
  unfold predict_Best
  have hn : (if (l.length : Int) < 5 then (l.length : Int) else 5) = ((min 5 l.length : Nat) : Int) := by split <;> omega
  generalize hN : min 5 l.length = N at *
  refine Exists.elim (iter_for (step := predict_Best_L1 l) N (fun i a => a = ((bestN (bestF l) i).1, (bestN (bestF l) i).2, (i : Int))) (fun r => r = (bestN (bestF l) N).1) (by omega) (fun i a hi ha => ?_) (fun a ha => ?_) (a0 := (0, -1, 0)) rfl) (fun r hr => by rw [hr.1, hr.2])
  · left
    unfold predict_Best_L1
    rw [hn, ha, if_pos (by simpa using hi)]
    obtain ⟨f1, f2, _⟩ := fixed_is (show i ≤ 4 by omega)
    simp only [f1, Option.bind_some]
    rw [resid_fixed (show i ≤ 4 by omega) (by omega) hl hm]
    simp only [Option.bind_some]
    rw [if_neg (by decide), ← ha]
    generalize hd : residL (fixedC i) 0 l = d at *
    have hdl : d.length < 2 ^ 40 := by rw [← hd, residL_len]; omega
    refine Exists.elim (iter_for (step := predict_Best_L2 a (d, 0)) d.length (fun j b => b = (sumW d j, (j : Int))) (fun r => r = .inl ((bestN (bestF l) (i + 1)).1, (bestN (bestF l) (i + 1)).2, ((i + 1 : Nat) : Int))) (by omega) (fun j b hj hb => ?_) (fun b hb => ?_) (a0 := (0, 0)) rfl) (fun r hr => ⟨_, by rw [hr.1, hr.2], rfl⟩)
    · subst hb
      unfold predict_Best_L2
      rw [if_pos (by simpa using hj)]
      simp only [idx_nat hj, Option.bind_some]
      refine .inl ⟨_, rfl, ?_⟩
      rw [W_succ (by omega)]
      show _ = (W (sumW d j + (if W (0 - d.getD j 0) > d.getD j 0 then W (0 - d.getD j 0) else d.getD j 0)), _)
      rw [getD_some hj]
    · subst hb
      unfold predict_Best_L2 predict_Best_K3 predict_Best_K2
      have hfi : bestF l i = sumW d d.length := by unfold bestF; rw [hd]
      rw [if_neg (by simp), ite_or, ha, bestN_succ, hfi]
      generalize (bestN (bestF l) i) = bb
      split
      · rename_i hcnd
        rw [Bool.or_eq_true, decide_eq_true_eq, decide_eq_true_eq] at hcnd
        rw [if_pos hcnd]
        exact ⟨_, rfl, by rw [W_succ (by omega)]⟩
      · rename_i hcnd
        rw [Bool.or_eq_true, decide_eq_true_eq, decide_eq_true_eq] at hcnd
        rw [if_neg hcnd]
        exact ⟨_, rfl, by rw [W_succ (by omega)]⟩
  · subst ha
    unfold predict_Best_L1 predict_Best_K1
    rw [hn, if_neg (by simp)]
    exact ⟨_, rfl, rfl⟩

def diffL (l : List Int) : List Int := (List.range (l.length - 1)).map fun i => W (l.getD (i + 1) 0 - l.getD i 0)
def diffN : Nat → List Int → List Int
  | 0, l => l
  | o + 1, l => diffL (diffN o l)
theorem diffL_len (l : List Int) : (diffL l).length = l.length - 1 := by simp [diffL]
theorem diffN_len (o : Nat) (l : List Int) : (diffN o l).length = l.length - o := by
  induction o with
  | zero => rfl
  | succ o ih => unfold diffN; rw [diffL_len, ih]; omega
theorem diffL_get {l : List Int} {i : Nat} (h : i + 1 < l.length) : (diffL l).getD i 0 = W (l.getD (i + 1) 0 - l.getD i 0) := by
  unfold diffL
  simp only [List.getD]
  rw [List.getElem?_map, List.getElem?_range (by omega)]
  rfl
theorem differ_is {o : Nat} {l : List Int} (hl : l.length < 2 ^ 40) (ho : o ≤ 4) : jetsamref06_Differ (o : Int) l = some (diffN o l) := by
  unfold jetsamref06_Differ
  rw [app_ok (by simp; omega)]
  simp only [Option.bind_some, List.nil_append]
  refine Exists.elim (iter_for (step := jetsamref06_Differ_L1 (o : Int)) o (fun i a => a = (diffN i l, (i : Int))) (fun r => r = diffN o l) (by omega) (fun i a hi ha => ?_) (fun a ha => ?_) (a0 := (l, 0)) rfl) (fun r hr => by rw [hr.1, hr.2])
  · subst ha
    left
    unfold jetsamref06_Differ_L1
    rw [if_pos (by simpa using hi)]
    have hml : (diffN i l).length < 2 ^ 40 := by rw [diffN_len]; omega
    have key : iter (jetsamref06_Differ_L2 (diffN i l, (i : Int))) (1, []) = some (.inl (diffN (i + 1) l, ((i + 1 : Nat) : Int))) := by
      generalize hm : diffN i l = m at *
      have hd : diffN (i + 1) l = diffL m := by unfold diffN; rw [hm]
      rw [hd]
      refine Exists.elim (iter_for (step := jetsamref06_Differ_L2 (m, (i : Int))) (m.length - 1) (fun j b => b = ((j : Int) + 1, (diffL m).take j)) (fun r => r = .inl (diffL m, ((i + 1 : Nat) : Int))) (by omega) (fun j b hj hb => ?_) (fun b hb => ?_) (a0 := (1, [])) rfl) (fun r hr => by rw [hr.1, hr.2])
      · subst hb
        left
        unfold jetsamref06_Differ_L2
        dsimp only
        have e1 : ((j : Int) + 1) = ((j + 1 : Nat) : Int) := by omega
        have e2 : W (((j + 1 : Nat) : Int) - 1) = (j : Int) := by rw [W_id (by omega) (by omega)]; omega
        rw [e1, if_pos (by rw [decide_eq_true_eq]; omega), idx_nat (l := m) (i := j + 1) (by omega), e2, idx_nat (l := m) (i := j) (by omega)]
        simp only [Option.bind_some]
        have hlt : j < (diffL m).length := by rw [diffL_len]; exact hj
        rw [app_ok (by simp [diffL_len]; omega)]
        simp only [Option.bind_some]
        refine ⟨_, rfl, ?_⟩
        rw [W_succ (by omega), List.take_succ_eq_append_getElem hlt]
        have e3 := diffL_get (l := m) (i := j) (by omega)
        rw [getD_some hlt, getD_some (show j + 1 < m.length by omega), getD_some (show j < m.length by omega)] at e3
        rw [e3]
        rfl
      · subst hb
        unfold jetsamref06_Differ_L2 jetsamref06_Differ_K3 jetsamref06_Differ_K2
        dsimp only
        rw [if_neg (by rw [decide_eq_true_eq]; omega), List.take_of_length_le (by rw [diffL_len]; omega)]
        exact ⟨_, rfl, by rw [W_succ (by omega)]⟩
    rw [key]
    exact ⟨_, rfl, rfl⟩
  · subst ha
    unfold jetsamref06_Differ_L1 jetsamref06_Differ_K1
    rw [if_neg (by simp)]
    exact ⟨_, rfl, rfl⟩
theorem W_sub (a b : Int) : W (W a - W b) = W (a - b) := by
  show IntKind.i64.wrap _ = IntKind.i64.wrap _
  simp only [W, wrap_i64']; omega
theorem W_subr (a b : Int) : W (a - W b) = W (a - b) := by
  show IntKind.i64.wrap _ = IntKind.i64.wrap _
  simp only [W, wrap_i64']; omega
theorem W_add (a b : Int) : W (W a + W b) = W (a + b) := by
  show IntKind.i64.wrap _ = IntKind.i64.wrap _
  simp only [W, wrap_i64']; omega
theorem W_addr (a b : Int) : W (a + W b) = W (a + b) := by
  show IntKind.i64.wrap _ = IntKind.i64.wrap _
  simp only [W, wrap_i64']; omega
theorem W_subl (a b : Int) : W (W a - b) = W (a - b) := by
  show IntKind.i64.wrap _ = IntKind.i64.wrap _
  simp only [W, wrap_i64']; omega
theorem W_addl (a b : Int) : W (W a + b) = W (a + b) := by
  show IntKind.i64.wrap _ = IntKind.i64.wrap _
  simp only [W, wrap_i64']; omega
theorem take_getD {l : List Int} {n j : Nat} (h : j < n) : (l.take n).getD j 0 = l.getD j 0 := by
  simp only [List.getD]
  rw [List.getElem?_take, if_pos h]
/-- Differences of differences are what fixed orders leave. -/
theorem diff_resid {o : Nat} {l : List Int} (ho : o ≤ 4) (hol : o ≤ l.length) (hm : MayP l) : diffN o l = residL (fixedC o) 0 l := by
  have hcl := (fixed_is ho).2.1
  apply List.ext_getElem?
  intro i
  by_cases hi : i + o < l.length
  · rw [residL_get (by omega), hcl]
    have hlt : i < (diffN o l).length := by rw [diffN_len]; omega
    rw [List.getElem?_eq_getElem hlt, ← getD_some hlt]
    refine congrArg some ?_
    have htl : (l.take (o + i)).length = o + i := by simp; omega
    rw [Int.pow_zero, Int.ediv_one]
    rcases (show o = 0 ∨ o = 1 ∨ o = 2 ∨ o = 3 ∨ o = 4 by omega) with rfl | rfl | rfl | rfl | rfl
    · show l.getD i 0 = W (l.getD (0 + i) 0 - 0)
      have := hm _ (List.getElem_mem (show i < l.length by omega))
      rw [Nat.zero_add, Int.sub_zero, getD_some (by omega), W_id (by omega) (by omega)]
    · show (diffL l).getD i 0 = W (l.getD (1 + i) 0 - W (0 + W (1 * (l.take (1 + i)).getD ((l.take (1 + i)).length - 1 - 0) 0)))
      rw [htl, take_getD (by omega), diffL_get (by omega), W_addr, W_subr]
      rw [show 1 + i - 1 - 0 = i by omega, show 1 + i = i + 1 by omega]
      congr 1; omega
    · show (diffL (diffL l)).getD i 0 = W (l.getD (2 + i) 0 - W (W (0 + W (2 * (l.take (2 + i)).getD ((l.take (2 + i)).length - 1 - 0) 0)) + W (-1 * (l.take (2 + i)).getD ((l.take (2 + i)).length - 1 - 1) 0)))
      rw [htl, take_getD (by omega), take_getD (by omega)]
      have d1 : ∀ j, j + 1 < l.length → (diffL l).getD j 0 = W (l.getD (j + 1) 0 - l.getD j 0) := fun j hj => diffL_get hj
      rw [diffL_get (by rw [diffL_len]; omega), d1 _ (by omega), d1 _ (by omega)]
      simp only [W_addr, W_addl, W_add, W_subr, W_subl, W_sub]
      rw [show 2 + i - 1 - 0 = i + 1 by omega, show 2 + i - 1 - 1 = i by omega, show 2 + i = i + 1 + 1 by omega]
      congr 1; omega
    · show (diffL (diffL (diffL l))).getD i 0 = W (l.getD (3 + i) 0 - W (W (W (0 + W (3 * (l.take (3 + i)).getD ((l.take (3 + i)).length - 1 - 0) 0)) + W (-3 * (l.take (3 + i)).getD ((l.take (3 + i)).length - 1 - 1) 0)) + W (1 * (l.take (3 + i)).getD ((l.take (3 + i)).length - 1 - 2) 0)))
      rw [htl, take_getD (by omega), take_getD (by omega), take_getD (by omega)]
      have d1 : ∀ j, j + 1 < l.length → (diffL l).getD j 0 = W (l.getD (j + 1) 0 - l.getD j 0) := fun j hj => diffL_get hj
      have d2 : ∀ j, j + 2 < l.length → (diffL (diffL l)).getD j 0 = W ((diffL l).getD (j + 1) 0 - (diffL l).getD j 0) := fun j hj => diffL_get (by rw [diffL_len]; omega)
      rw [diffL_get (by rw [diffL_len, diffL_len]; omega), d2 _ (by omega), d2 _ (by omega), d1 _ (by omega), d1 _ (by omega), d1 _ (by omega)]
      simp only [W_addr, W_addl, W_add, W_subr, W_subl, W_sub]
      rw [show 3 + i - 1 - 0 = i + 1 + 1 by omega, show 3 + i - 1 - 1 = i + 1 by omega, show 3 + i - 1 - 2 = i by omega, show 3 + i = i + 1 + 1 + 1 by omega]
      congr 1; omega
    · show (diffL (diffL (diffL (diffL l)))).getD i 0 = W (l.getD (4 + i) 0 - W (W (W (W (0 + W (4 * (l.take (4 + i)).getD ((l.take (4 + i)).length - 1 - 0) 0)) + W (-6 * (l.take (4 + i)).getD ((l.take (4 + i)).length - 1 - 1) 0)) + W (4 * (l.take (4 + i)).getD ((l.take (4 + i)).length - 1 - 2) 0)) + W (-1 * (l.take (4 + i)).getD ((l.take (4 + i)).length - 1 - 3) 0)))
      rw [htl, take_getD (by omega), take_getD (by omega), take_getD (by omega), take_getD (by omega)]
      have d1 : ∀ j, j + 1 < l.length → (diffL l).getD j 0 = W (l.getD (j + 1) 0 - l.getD j 0) := fun j hj => diffL_get hj
      have d2 : ∀ j, j + 2 < l.length → (diffL (diffL l)).getD j 0 = W ((diffL l).getD (j + 1) 0 - (diffL l).getD j 0) := fun j hj => diffL_get (by rw [diffL_len]; omega)
      have d3 : ∀ j, j + 3 < l.length → (diffL (diffL (diffL l))).getD j 0 = W ((diffL (diffL l)).getD (j + 1) 0 - (diffL (diffL l)).getD j 0) := fun j hj => diffL_get (by rw [diffL_len, diffL_len]; omega)
      rw [diffL_get (by rw [diffL_len, diffL_len, diffL_len]; omega), d3 _ (by omega), d3 _ (by omega), d2 _ (by omega), d2 _ (by omega), d2 _ (by omega), d1 _ (by omega), d1 _ (by omega), d1 _ (by omega), d1 _ (by omega)]
      simp only [W_addr, W_addl, W_add, W_subr, W_subl, W_sub]
      rw [show 4 + i - 1 - 0 = i + 1 + 1 + 1 by omega, show 4 + i - 1 - 1 = i + 1 + 1 by omega, show 4 + i - 1 - 2 = i + 1 by omega, show 4 + i - 1 - 3 = i by omega, show 4 + i = i + 1 + 1 + 1 + 1 by omega]
      congr 1; omega
  · rw [List.getElem?_eq_none (by rw [diffN_len]; omega), List.getElem?_eq_none (by rw [residL_len, hcl]; omega)]
theorem rbest6_is {l : List Int} (hl : l.length < 2 ^ 40) (hm : MayP l) : jetsamref06_Best l = some (bestN (bestF l) (min 5 l.length)).1 := by
  unfold jetsamref06_Best
  have hmain : jetsamref06_Best_K1 l () = some (bestN (bestF l) (min 5 l.length)).1 := by
    unfold jetsamref06_Best_K1
    have hcond : ∀ i : Nat, ((if decide ((i : Int) < 5) = true then decide ((i : Int) < (l.length : Int)) else false) = true ↔ i < min 5 l.length) := by
      intro i
      rw [ite_and, Bool.and_eq_true, decide_eq_true_eq, decide_eq_true_eq]
      omega
    generalize hN : min 5 l.length = N at *
    refine Exists.elim (iter_for (step := jetsamref06_Best_L1 l) N (fun i a => a = ((bestN (bestF l) i).1, (bestN (bestF l) i).2, (i : Int))) (fun r => r = (bestN (bestF l) N).1) (by omega) (fun i a hi ha => ?_) (fun a ha => ?_) (a0 := (0, -1, 0)) rfl) (fun r hr => by rw [hr.1, hr.2])
    · left
      unfold jetsamref06_Best_L1
      rw [ha, if_pos ((hcond i).2 hi)]
      simp only
      rw [differ_is hl (by omega), diff_resid (by omega) (by omega) hm]
      simp only [Option.bind_some]
      rw [← ha]
      generalize hd : residL (fixedC i) 0 l = d at *
      have hdl : d.length < 2 ^ 40 := by rw [← hd, residL_len]; omega
      refine Exists.elim (iter_for (step := jetsamref06_Best_L2 a d) d.length (fun j b => b = (sumW d j, (j : Int))) (fun r => r = .inl ((bestN (bestF l) (i + 1)).1, (bestN (bestF l) (i + 1)).2, ((i + 1 : Nat) : Int))) (by omega) (fun j b hj hb => ?_) (fun b hb => ?_) (a0 := (0, 0)) rfl) (fun r hr => ⟨_, by rw [hr.1, hr.2], rfl⟩)
      · subst hb
        unfold jetsamref06_Best_L2
        rw [if_pos (by simpa using hj)]
        simp only [idx_nat hj, Option.bind_some]
        refine .inl ⟨_, rfl, ?_⟩
        rw [W_succ (by omega)]
        show _ = (W (sumW d j + (if W (0 - d.getD j 0) > d.getD j 0 then W (0 - d.getD j 0) else d.getD j 0)), _)
        rw [getD_some hj]
      · subst hb
        unfold jetsamref06_Best_L2 jetsamref06_Best_K4 jetsamref06_Best_K3
        have hfi : bestF l i = sumW d d.length := by unfold bestF; rw [hd]
        rw [if_neg (by simp), ite_or, ha, bestN_succ, hfi]
        generalize (bestN (bestF l) i) = bb
        split
        · rename_i hcnd
          rw [Bool.or_eq_true, decide_eq_true_eq, decide_eq_true_eq] at hcnd
          rw [if_pos hcnd]
          exact ⟨_, rfl, by rw [W_succ (by omega)]⟩
        · rename_i hcnd
          rw [Bool.or_eq_true, decide_eq_true_eq, decide_eq_true_eq] at hcnd
          rw [if_neg hcnd]
          exact ⟨_, rfl, by rw [W_succ (by omega)]⟩
    · subst ha
      unfold jetsamref06_Best_L1 jetsamref06_Best_K2
      rw [if_neg (fun h => Nat.lt_irrefl _ ((hcond N).1 h))]
      exact ⟨_, rfl, rfl⟩
  refine Exists.elim (iter_for (step := jetsamref06_Best_L3 l) l.length (fun i a => a = (i : Int)) (fun r => r = (bestN (bestF l) (min 5 l.length)).1) (by omega) (fun i a hi ha => ?_) (fun a ha => ?_) (a0 := 0) rfl) (fun r hr => by rw [hr.1, hr.2])
  · subst ha
    left
    unfold jetsamref06_Best_L3 jetsamref06_may
    have hmx := hm _ (List.getElem_mem hi)
    have hmay : (if decide (l[i] ≥ -4294967296) = true then decide (l[i] < 4294967296) else false) = true := by
      rw [ite_and, Bool.and_eq_true, decide_eq_true_eq, decide_eq_true_eq]; omega
    rw [if_pos (by simpa using hi), idx_nat hi]
    simp only [Option.bind_some, hmay]
    rw [if_neg (by decide)]
    exact ⟨_, rfl, W_succ (by omega)⟩
  · subst ha
    unfold jetsamref06_Best_L3
    rw [if_neg (by simp), hmain]
    exact ⟨_, rfl, rfl⟩
end Go.Vg

namespace Go.Vg

/-- Bits as numbers. -/
def b01 (l : List Bool) : List Int := l.map fun b => if b then 1 else 0
theorem b01_length (l : List Bool) : (b01 l).length = l.length := by simp [b01]
theorem b01_append (l m : List Bool) : b01 (l ++ m) = b01 l ++ b01 m := by simp [b01]
theorem number_un {l : List Bool} (hl : l.length ≤ 48) : jetsamref01_Number (b01 l) false = some (num l : Int) := by
  unfold jetsamref01_Number
  refine Exists.elim (iter_for (step := jetsamref01_Number_L1 (b01 l) false) l.length (fun i a => a = ((num (l.take i) : Int), (i : Int))) (fun r => r = (num l : Int)) (by omega) (fun i a hi ha => ?_) (fun a ha => ?_) (a0 := (0, 0)) rfl) (fun r hr => by rw [hr.1, hr.2])
  · subst ha
    left
    unfold jetsamref01_Number_L1 jetsamref01_Number_K2
    have hi' : i < (b01 l).length := by rw [b01_length]; exact hi
    rw [if_pos (by simpa using hi'), idx_nat hi']
    simp only [Option.bind_some, ite_and, Bool.and_false]
    rw [if_neg (by decide)]
    refine ⟨_, rfl, ?_⟩
    have hlt := num_lt (l.take i)
    have hp : (2 : Nat) ^ (l.take i).length ≤ 2 ^ 47 := pow_le (by simp; omega)
    have e : (b01 l)[i] = if l[i] then 1 else 0 := by simp [b01]
    have e2 : (num (l.take (i + 1)) : Int) = 2 * num (l.take i) + if l[i] then 1 else 0 := by
      rw [List.take_succ_eq_append_getElem hi, num_append]
      cases l[i] <;> simp [num] <;> omega
    have hb : (0 : Int) ≤ (if l[i] then 1 else 0) ∧ (if l[i] then (1 : Int) else 0) ≤ 1 := by split <;> omega
    rw [W_succ (by omega), e, e2, W_id (x := 2 * (num (l.take i) : Int)) (by omega) (by omega), W_id (by omega) (by omega)]
  · subst ha
    unfold jetsamref01_Number_L1 jetsamref01_Number_K1
    rw [if_neg (by rw [b01_length]; simp), List.take_length]
    exact ⟨_, rfl, rfl⟩
/-- The number that bits are, the first one of which is the sign. -/
def numS : List Bool → Int
  | [] => 0
  | b :: l => (num l : Int) - if b then 2 ^ l.length else 0
theorem numS_snoc (l : List Bool) (b : Bool) (h : l ≠ []) : numS (l ++ [b]) = 2 * numS l + if b then 1 else 0 := by
  cases l with
  | nil => exact absurd rfl h
  | cons x l =>
    simp only [List.cons_append, numS]
    rw [num_append, List.length_append]
    simp only [List.length_singleton, Nat.pow_one, Int.pow_succ]
    cases b <;> cases x <;> simp [num] <;> omega
theorem numS_range (l : List Bool) : -(2 : Int) ^ (l.length - 1) ≤ numS l ∧ numS l < 2 ^ (l.length - 1) ∨ l = [] := by
  cases l with
  | nil => exact .inr rfl
  | cons x l =>
    left
    simp only [numS, List.length_cons, Nat.add_sub_cancel]
    have h1 := num_lt l
    have h2 := pow_cast l.length
    have h3 := pow_posI l.length
    cases x <;> simp <;> omega
theorem numS_mod (l : List Bool) : numS l % 2 ^ l.length = (num l : Int) % 2 ^ l.length := by
  cases l with
  | nil => rfl
  | cons x l =>
    simp only [numS, List.length_cons]
    have e : (num (x :: l) : Int) = num l + if x then 2 ^ l.length else 0 := by
      have : x :: l = [x] ++ l := rfl
      rw [this, num_append]
      have hc := pow_cast l.length
      cases x <;> simp [num] <;> omega
    rw [e]
    cases x with
    | false => simp
    | true =>
      simp only [if_true]
      have : (num l : Int) + 2 ^ l.length = (num l : Int) - 2 ^ l.length + 2 ^ (l.length + 1) * 1 := by
        rw [Int.pow_succ]; omega
      rw [this, Int.add_mul_emod_self_left]
theorem number_sg {l : List Bool} (hl : l.length ≤ 48) : jetsamref01_Number (b01 l) true = some (numS l) := by
  unfold jetsamref01_Number
  refine Exists.elim (iter_for (step := jetsamref01_Number_L1 (b01 l) true) l.length (fun i a => a = (numS (l.take i), (i : Int))) (fun r => r = numS l) (by omega) (fun i a hi ha => ?_) (fun a ha => ?_) (a0 := (0, 0)) rfl) (fun r hr => by rw [hr.1, hr.2])
  · subst ha
    left
    unfold jetsamref01_Number_L1 jetsamref01_Number_K2
    have hi' : i < (b01 l).length := by rw [b01_length]; exact hi
    have e : (b01 l)[i] = if l[i] then 1 else 0 := by simp [b01]
    rw [if_pos (by simpa using hi'), idx_nat hi']
    simp only [Option.bind_some, ite_and, Bool.and_true]
    by_cases h0 : i = 0
    · subst h0
      have h0' : idx (b01 l) 0 = some (b01 l)[0] := idx_nat (i := 0) hi'
      rw [if_pos (by decide), h0']
      simp only [Option.bind_some]
      refine ⟨_, rfl, ?_⟩
      rw [W_succ (by omega), e, List.take_succ_eq_append_getElem hi, List.take_zero, List.nil_append]
      generalize l[0] = bb
      cases bb <;> decide
    · rw [if_neg (by rw [beq_iff_eq]; omega)]
      refine ⟨_, rfl, ?_⟩
      have hne : l.take i ≠ [] := by
        intro h
        have := congrArg List.length h
        rw [List.length_take, Nat.min_eq_left (by omega), List.length_nil] at this
        exact h0 this
      have hp : (2 : Nat) ^ ((l.take i).length - 1) ≤ 2 ^ 47 := pow_le (by simp; omega)
      have hpc := pow_cast ((l.take i).length - 1)
      have hr : -(2 : Int) ^ ((l.take i).length - 1) ≤ numS (l.take i) ∧ numS (l.take i) < 2 ^ ((l.take i).length - 1) := by
        rcases numS_range (l.take i) with h | h
        · exact h
        · exact absurd h hne
      have hb : (0 : Int) ≤ (if l[i] then 1 else 0) ∧ (if l[i] then (1 : Int) else 0) ≤ 1 := by split <;> omega
      rw [W_succ (by omega), e, List.take_succ_eq_append_getElem hi, numS_snoc _ _ hne, W_id (x := 2 * numS (l.take i)) (by omega) (by omega), W_id (by omega) (by omega)]
  · subst ha
    unfold jetsamref01_Number_L1 jetsamref01_Number_K1
    rw [if_neg (by rw [b01_length]; simp), List.take_length]
    exact ⟨_, rfl, rfl⟩

/-- A number's bits, from any bit on. -/
theorem bitsOf_get {n v i : Nat} (h : i < n) : (bitsOf n v)[i]? = some (v / 2 ^ (n - 1 - i) % 2 == 1) := by
  induction n generalizing v i with
  | zero => omega
  | succ n ih =>
    rw [bitsOf, List.getElem?_append, bitsOf_length]
    by_cases hi : i < n
    · have e : 2 ^ (n + 1 - 1 - i) = 2 * 2 ^ (n - 1 - i) := by rw [← Nat.pow_succ']; congr 1; omega
      rw [if_pos hi, ih hi, Nat.div_div_eq_div_mul, e]
    · rw [if_neg hi]
      obtain rfl : i = n := by omega
      simp
/-- The bits that are put. -/
theorem put_loop {n : Nat} {v : Int} {step : Int × List Int → Option ((Int × List Int) ⊕ (Int × List Int))} {R : Int × List Int} (hn : n ≤ 48)
    (hs : ∀ (i : Nat) (l : List Int), l.length < 2 ^ 40 → step ((i : Int), l) = some (.inl (W ((i : Int) - 1), l ++ [arD .and .i64 (shD .shr .i64 v (i : Int)) 1])))
    (he : step (-1, b01 (bitsOf n (sgn n v))) = some (.inr R)) : iter step (W ((n : Int) - 1), []) = some R := by
  have e0 : W ((n : Int) - 1) = (n : Int) - 1 := W_id (by omega) (by omega)
  rw [e0]
  refine Exists.elim (iter_for (step := step) n (fun i a => a = ((n : Int) - 1 - i, b01 ((bitsOf n (sgn n v)).take i))) (fun r => r = R) (by omega) (fun i a hi ha => ?_) (fun a ha => ?_) (a0 := ((n : Int) - 1, [])) (by simp [b01])) (fun r hr => by rw [hr.1, hr.2])
  · subst ha
    left
    have e1 : (n : Int) - 1 - (i : Int) = ((n - 1 - i : Nat) : Int) := by omega
    rw [e1, hs _ _ (by rw [b01_length]; simp; omega)]
    refine ⟨_, rfl, ?_⟩
    have e2 : W (((n - 1 - i : Nat) : Int) - 1) = (n : Int) - 1 - ((i + 1 : Nat) : Int) := by rw [W_id (by omega) (by omega)]; omega
    have hil : i < (bitsOf n (sgn n v)).length := by rw [bitsOf_length]; exact hi
    rw [e2, List.take_succ_eq_append_getElem hil, b01_append]
    refine congrArg (fun z => ((n : Int) - 1 - ((i + 1 : Nat) : Int), b01 ((bitsOf n (sgn n v)).take i) ++ z)) ?_
    have e3 := bitsOf_get (n := n) (v := sgn n v) hi
    rw [List.getElem?_eq_getElem hil] at e3
    rw [Option.some.inj e3, shr_int _ (by omega), and_one]
    -- one bit
    have hp := pow_posI (n - 1 - i)
    have hv : v / 2 ^ (n - 1 - i) % 2 = ((sgn n v / 2 ^ (n - 1 - i) % 2 : Nat) : Int) := by
      unfold sgn
      have hpn := pow_posI n
      have e4 : (2 : Int) ^ n = 2 ^ (n - 1 - i) * (2 * 2 ^ i) := by
        rw [← Int.mul_assoc, ← Int.pow_succ, ← Int.pow_add]; congr 1; omega
      rw [Int.natCast_emod, Int.natCast_ediv, Int.toNat_of_nonneg (Int.emod_nonneg _ (Int.ne_of_gt hpn)), pow_cast, e4]
      have h1 := Int.emod_add_mul_ediv v (2 ^ (n - 1 - i) * (2 * 2 ^ i))
      generalize v % (2 ^ (n - 1 - i) * (2 * 2 ^ i)) = r at *
      generalize v / (2 ^ (n - 1 - i) * (2 * 2 ^ i)) = k at *
      have h2 : v = r + 2 ^ (n - 1 - i) * (2 * (2 ^ i * k)) := by rw [← h1]; simp only [Int.mul_assoc]
      rw [h2, Int.add_mul_ediv_left _ _ (Int.ne_of_gt hp), Int.add_mul_emod_self_left]
      rfl
    rw [hv]
    rcases Nat.mod_two_eq_zero_or_one (sgn n v / 2 ^ (n - 1 - i)) with h | h <;> rw [h] <;> rfl
  · subst ha
    have e1 : (n : Int) - 1 - (n : Int) = -1 := by omega
    rw [e1, List.take_of_length_le (by rw [bitsOf_length]; omega), he]
    exact ⟨_, rfl, rfl⟩
/-- What is put, and when. -/
theorem putS_val {n : Nat} {v : Int} (hn : n ≤ 48) : (numS (bitsOf n (sgn n v)) = v ↔ EscOk n v) := by
  have hl := bitsOf_length n (sgn n v)
  by_cases h0 : n = 0
  · subst h0
    show (0 : Int) = v ↔ _
    constructor
    · intro h; exact .inl ⟨rfl, h.symm⟩
    · rintro (⟨_, h⟩ | ⟨h, _⟩)
      · exact h.symm
      · omega
  have hne : bitsOf n (sgn n v) ≠ [] := fun h => by rw [h] at hl; simp at hl; omega
  have hr : -(2 : Int) ^ (n - 1) ≤ numS (bitsOf n (sgn n v)) ∧ numS (bitsOf n (sgn n v)) < 2 ^ (n - 1) := by
    have := numS_range (bitsOf n (sgn n v))
    rw [hl] at this
    rcases this with h | h
    · exact h
    · exact absurd h hne
  have hmod : numS (bitsOf n (sgn n v)) % 2 ^ n = v % 2 ^ n := by
    have := numS_mod (bitsOf n (sgn n v))
    rw [hl, num_bitsOf, Nat.mod_eq_of_lt (sgn_lt n v)] at this
    rw [this]
    unfold sgn
    rw [Int.toNat_of_nonneg (Int.emod_nonneg _ (Int.ne_of_gt (pow_posI n))), Int.emod_emod]
  have hpn : (2 : Int) ^ n = 2 ^ (n - 1) * 2 := by rw [← Int.pow_succ]; congr 1; omega
  have hpp := pow_posI (n - 1)
  generalize numS (bitsOf n (sgn n v)) = r at *
  constructor
  · intro h
    subst h
    exact .inr ⟨by omega, hn, hr.1, hr.2⟩
  · rintro (⟨h, _⟩ | ⟨_, _, h3, h4⟩)
    · exact absurd h h0
    · have e1 := Int.emod_add_mul_ediv r (2 ^ n)
      have e2 := Int.emod_add_mul_ediv v (2 ^ n)
      rw [hmod] at e1
      have hd : (2 : Int) ^ n * (r / 2 ^ n) - 2 ^ n * (v / 2 ^ n) = r - v := by omega
      rw [← Int.mul_sub] at hd
      generalize (2 : Int) ^ n = N at *
      generalize r / N - v / N = k at *
      have hk : k = 0 := by
        rcases Int.lt_trichotomy k 0 with h | h | h
        · have := Int.mul_le_mul_of_nonneg_left (show k ≤ -1 by omega) (show 0 ≤ N by omega)
          omega
        · exact h
        · have := Int.mul_le_mul_of_nonneg_left (show 1 ≤ k by omega) (show 0 ≤ N by omega)
          omega
      rw [hk, Int.mul_zero] at hd
      omega
theorem putU_val {n : Nat} {v : Int} (hn : n ≤ 48) : ((num (bitsOf n (sgn n v)) : Int) = v ↔ 0 ≤ v ∧ v < 2 ^ n) := by
  rw [num_bitsOf, Nat.mod_eq_of_lt (sgn_lt n v)]
  unfold sgn
  have hp := pow_posI n
  rw [Int.toNat_of_nonneg (Int.emod_nonneg _ (Int.ne_of_gt hp))]
  constructor
  · intro h
    have := Int.emod_nonneg v (Int.ne_of_gt hp)
    have := Int.emod_lt_of_pos v hp
    omega
  · rintro ⟨h1, h2⟩
    exact Int.emod_eq_of_lt h1 h2
theorem rput_S {n : Nat} {v : Int} (hn : n ≤ 48) : ∃ c l, jetsamref01_Put (n : Int) v true = some (c, l) ∧ (c = 0 ↔ EscOk n v) ∧ (c = 0 → l = b01 (escBits n v)) := by
  unfold jetsamref01_Put
  rw [if_neg (by rw [ite_or, Bool.or_eq_true, decide_eq_true_eq, decide_eq_true_eq]; omega)]
  have hN := number_sg (l := bitsOf n (sgn n v)) (by rw [bitsOf_length]; exact hn)
  have hlen : (b01 (bitsOf n (sgn n v))).length = n := by rw [b01_length, bitsOf_length]
  by_cases hv : EscOk n v
  · refine ⟨0, b01 (escBits n v), put_loop (v := v) hn (fun i l hl => ?_) ?_, ⟨fun _ => hv, fun _ => rfl⟩, fun _ => rfl⟩
    · unfold jetsamref01_Put_L1
      rw [if_pos (by simp), need_ok (by simp), app_ok (by simp; omega)]
      rfl
    · unfold jetsamref01_Put_L1 jetsamref01_Put_K1
      rw [if_neg (by simp)]
      simp only [hN, Option.bind_some]
      rw [if_neg (by rw [(putS_val hn).2 hv]; simp), app_ok (by rw [List.length_nil, hlen]; omega)]
      rfl
  · refine ⟨10, [], put_loop (v := v) hn (fun i l hl => ?_) ?_, ⟨fun h => (nomatch h), fun h => absurd h hv⟩, fun h => (nomatch h)⟩
    · unfold jetsamref01_Put_L1
      rw [if_pos (by simp), need_ok (by simp), app_ok (by simp; omega)]
      rfl
    · unfold jetsamref01_Put_L1 jetsamref01_Put_K1
      rw [if_neg (by simp)]
      simp only [hN, Option.bind_some]
      rw [if_pos (by rw [bne_iff_ne]; exact fun h => hv ((putS_val hn).1 h))]
      rfl
theorem rput2_U {n : Nat} {v : Int} {y : List Int} (hn : n ≤ 48) (h1 : 0 ≤ v) (h2 : v < 2 ^ n) (hy : y.length < 2 ^ 40) : jetsamref01_Put_x2 (n : Int) v false y = some (0, y ++ b01 (bitsOf n v.toNat)) := by
  unfold jetsamref01_Put_x2
  rw [if_neg (by rw [ite_or, Bool.or_eq_true, decide_eq_true_eq, decide_eq_true_eq]; omega)]
  have hN := number_un (l := bitsOf n (sgn n v)) (by rw [bitsOf_length]; exact hn)
  have hlen : (b01 (bitsOf n (sgn n v))).length = n := by rw [b01_length, bitsOf_length]
  have hs : sgn n v = v.toNat := by unfold sgn; rw [Int.emod_eq_of_lt h1 h2]
  refine put_loop (v := v) hn (fun i l hl => ?_) ?_
  · unfold jetsamref01_Put_x2_L1
    rw [if_pos (by simp), need_ok (by simp), app_ok (by simp; omega)]
    rfl
  · unfold jetsamref01_Put_x2_L1 jetsamref01_Put_x2_K1
    rw [if_neg (by simp)]
    simp only [hN, Option.bind_some]
    rw [if_neg (by rw [(putU_val hn).2 ⟨h1, h2⟩]; simp), app_ok (by rw [hlen]; omega), ← hs]
    rfl
theorem runary_is {n : Nat} (hn : n ≤ 65536) : jetsamref01_Unary (n : Int) = some (0, b01 (List.replicate n false ++ [true])) := by
  unfold jetsamref01_Unary
  rw [if_neg (by rw [ite_or, Bool.or_eq_true, decide_eq_true_eq, decide_eq_true_eq]; omega)]
  refine Exists.elim (iter_for (step := jetsamref01_Unary_L1 (n : Int)) n (fun i a => a = ((i : Int), b01 (List.replicate i false))) (fun r => r = (0, b01 (List.replicate n false ++ [true]))) (by omega) (fun i a hi ha => ?_) (fun a ha => ?_) (a0 := (0, [])) rfl) (fun r hr => by rw [hr.1, hr.2])
  · subst ha
    left
    unfold jetsamref01_Unary_L1
    rw [if_pos (by simpa using hi), app_ok (by rw [b01_length]; simp; omega)]
    simp only [Option.bind_some]
    refine ⟨_, rfl, ?_⟩
    rw [W_succ (by omega), List.replicate_succ', b01_append]
    rfl
  · subst ha
    unfold jetsamref01_Unary_L1 jetsamref01_Unary_K1
    rw [if_neg (by simp), app_ok (by rw [b01_length]; simp; omega)]
    refine ⟨_, rfl, ?_⟩
    rw [b01_append]
    rfl
end Go.Vg

namespace Go.Vg

/-! ### How many bits a number needs -/
theorem width_min {v : Int} (h1 : -2147483648 < v) (h2 : v < 2147483648) : ∃ w : Nat, rice_width v = some (w : Int) ∧ w ≤ 32 ∧ ∀ n : Nat, n ≤ 48 → (EscOk n v ↔ w ≤ n) := by
  have hmono : ∀ a b : Nat, a ≤ b → (2 : Int) ^ a ≤ 2 ^ b := fun a b h => by
    have := pow_le h
    have e1 := pow_cast a
    have e2 := pow_cast b
    omega
  unfold rice_width
  refine Exists.elim (iter_of (step := rice_width_L1) (I := fun a : Int × Int => ∃ (c : Nat) (x : Int), c ≤ 31 ∧ a = (x, (c : Int)) ∧ (2 : Int) ^ c * x ≤ v ∧ v < (2 : Int) ^ c * (x + 1) ∧ (1 ≤ c → ¬ (-(2 : Int) ^ (c - 1) ≤ v ∧ v < 2 ^ (c - 1)))) (m := fun a => 40 - a.2.toNat) (Q := fun r => ∃ w : Nat, r = (w : Int) ∧ w ≤ 32 ∧ ∀ n : Nat, n ≤ 48 → (EscOk n v ↔ w ≤ n)) (fun a ha => ?_) (a0 := (v, 0)) ⟨0, v, by omega, rfl, by simp, by simp; omega, fun h => by omega⟩ (show 40 - (0 : Int).toNat < ROUNDS by decide)) (fun r hr => let ⟨h1, w, h2, h3⟩ := hr; ⟨w, by rw [h1, h2], h3⟩)
  obtain ⟨c, x, hc, rfl, hA, hB, hC⟩ := ha
  have hP : (0 : Int) < (2 : Int) ^ c := Int.pow_pos (by decide)
  unfold rice_width_L1
  by_cases hx : x = 0 ∨ x = -1
  · right
    rw [if_neg (by rcases hx with rfl | rfl <;> simp)]
    unfold rice_width_K1
    rw [ite_and]
    by_cases h0 : (c : Int) = 0 ∧ x = 0
    · obtain ⟨hc0, rfl⟩ := h0
      obtain rfl : c = 0 := by omega
      refine ⟨0, rfl, 0, rfl, by omega, fun n hn => ⟨fun _ => Nat.zero_le _, fun _ => ?_⟩⟩
      have hv : v = 0 := by simp at hA hB; omega
      subst hv
      by_cases hn0 : n = 0
      · exact .inl ⟨hn0, rfl⟩
      · have := pow_posI (n - 1)
        exact .inr ⟨by omega, hn, by omega, this⟩
    · rw [if_neg (by rw [Bool.and_eq_true, beq_iff_eq, beq_iff_eq]; exact h0)]
      refine ⟨_, rfl, c + 1, by rw [W_succ (by omega)], by omega, fun n hn => ?_⟩
      have hv : -(2 : Int) ^ c ≤ v ∧ v < 2 ^ c := by rcases hx with rfl | rfl <;> (simp at hA hB; omega)
      constructor
      · intro h
        rcases h with ⟨hn0, hv0⟩ | ⟨n1, _, n3, n4⟩
        · -- v = 0: then x = 0, c = 0 would have been seen
          exfalso
          subst hv0
          by_cases hc0 : c = 0
          · subst hc0
            rcases hx with rfl | rfl
            · exact h0 ⟨rfl, rfl⟩
            · simp at hA hB
          · have := pow_posI (c - 1)
            exact hC (by omega) ⟨by omega, this⟩
        · rcases Nat.lt_or_ge c n with h | h
          · exact h
          · exfalso
            have := hmono (n - 1) (c - 1) (by omega)
            by_cases hc0 : c = 0
            · omega
            · exact hC (by omega) ⟨by omega, by omega⟩
      · intro h
        have := hmono c (n - 1) (by omega)
        exact .inr ⟨by omega, hn, by omega, by omega⟩
  · left
    rw [if_pos (by simp; omega), shr1, W_succ (by omega)]
    have hx1 : 2 * (x / 2) ≤ x := by omega
    have hx2 : x + 1 ≤ 2 * (x / 2 + 1) := by omega
    have m1 := Int.mul_le_mul_of_nonneg_left hx1 (Int.le_of_lt hP)
    have m2 := Int.mul_le_mul_of_nonneg_left hx2 (Int.le_of_lt hP)
    refine ⟨_, rfl, ⟨c + 1, x / 2, ?_, rfl, ?_, ?_, ?_⟩, ?_⟩
    · rcases Nat.lt_or_ge c 31 with h | h
      · omega
      · obtain rfl : c = 31 := by omega
        exfalso
        have e : (2 : Int) ^ 31 = 2147483648 := by decide
        rw [e] at hA hB
        omega
    · rw [Int.pow_succ, Int.mul_assoc]; omega
    · rw [Int.pow_succ, Int.mul_assoc]; omega
    · intro _ hr
      simp only [Nat.add_sub_cancel] at hr
      rcases Int.lt_or_gt_of_ne (show x ≠ 0 by omega) with h | h
      · have := Int.mul_le_mul_of_nonneg_left (show x + 1 ≤ -1 by omega) (Int.le_of_lt hP)
        omega
      · have := Int.mul_le_mul_of_nonneg_left (show 1 ≤ x by omega) (Int.le_of_lt hP)
        omega
    · simp only [Int.toNat_natCast]
      omega

/-! ### What a part costs -/
def InR (v : Int) : Prop := -2147483648 < v ∧ v < 2147483648
/-- By a parameter. -/
def okC (k : Nat) (xs : List Int) : Prop := ∀ v, v ∈ xs → InR v ∧ foldN v / 2 ^ k ≤ 65536
def lenC (k : Nat) (xs : List Int) : Int := (xs.map fun v => ((foldN v / 2 ^ k + 1 + k : Nat) : Int)).sum
theorem okC_one {k : Nat} {xs : List Int} : okC k xs ↔ ∀ v, v ∈ xs → OneOk (k : Int) 0 v := by
  unfold okC OneOk InR
  refine forall_congr' fun v => forall_congr' fun _ => ?_
  simp only [Int.toNat_natCast]
  constructor
  · rintro ⟨⟨a, b⟩, c⟩; exact ⟨a, b, fun h => by omega, fun _ => c⟩
  · rintro ⟨a, b, _, c⟩; exact ⟨⟨a, b⟩, c (by omega)⟩
theorem lenC_sum {k : Nat} {xs : List Int} : lenC k xs = sumL (k : Int) 0 xs := by
  unfold lenC sumL
  refine congrArg List.sum (List.map_congr_left fun v _ => ?_)
  unfold oneLen
  rw [if_neg (by omega), Int.toNat_natCast]
theorem some_code {xs : List Int} {k : Nat} (hl : xs.length < 2 ^ 40) (hk : k ≤ 31) : ∃ c b, rice_some xs (k : Int) 0 = some (c, b) ∧ (b = true ↔ okC k xs) ∧ (b = true → c = lenC k xs) := by
  obtain ⟨c, b, h1, h2, h3⟩ := some_spec (xs := xs) (par := (k : Int)) (n := 0) hl (.inr ⟨by omega, by omega⟩) (by decide) (by decide)
  exact ⟨c, b, h1, by rw [h2, okC_one], fun h => by rw [h3 h, lenC_sum]⟩
theorem lenC_le {k : Nat} {xs : List Int} (hk : k ≤ 31) (h : okC k xs) : 0 ≤ lenC k xs ∧ lenC k xs ≤ 65568 * xs.length := by
  rw [lenC_sum]
  exact sumL_le (.inr ⟨by omega, by omega⟩) (by decide) (by decide) (okC_one.1 h)
/-- The reference's one, by a parameter. -/
theorem rone_code {v : Int} {k : Nat} (hk : k ≤ 31) : ∃ l b, jetsamref05_one v (k : Int) 0 = some (l, b) ∧ (b = true ↔ InR v ∧ foldN v / 2 ^ k ≤ 65536) ∧ (b = true → l = b01 (codeBits k v)) := by
  unfold jetsamref05_one
  rw [ite_or]
  by_cases hv : InR v
  · unfold InR at hv
    rw [if_neg (by rw [Bool.or_eq_true, decide_eq_true_eq, decide_eq_true_eq]; omega), if_neg (by rw [decide_eq_true_eq]; omega)]
    have hlt : foldN v < 4294967296 := by unfold foldN; split <;> omega
    have key : ∃ l b, jetsamref05_one_K1 (k : Int) (foldN v : Int) = some (l, b) ∧ (b = true ↔ InR v ∧ foldN v / 2 ^ k ≤ 65536) ∧ (b = true → l = b01 (codeBits k v)) := by
      unfold jetsamref05_one_K1
      have hp : 0 < (2 : Nat) ^ k := Nat.pow_pos (by omega)
      have hpl : (2 : Nat) ^ k ≤ 2 ^ 31 := pow_le hk
      have hle : foldN v / 2 ^ k ≤ foldN v := Nat.div_le_self _ _
      have hmod : foldN v % 2 ^ k < 2 ^ k := Nat.mod_lt _ hp
      have hne : ((((2 ^ k : Nat) : Int)) != 0) = true := by rw [bne_iff_ne]; omega
      rw [need_ok (by simp), shr_nat (by omega)]
      by_cases hu : foldN v / 2 ^ k ≤ 65536
      · rw [if_neg (by rw [decide_eq_true_eq]; generalize foldN v / 2 ^ k = q at *; omega), need_ok (by simp)]
        simp only [lett, runary_is hu, Option.bind_some]
        rw [if_neg (by decide), need_ok (by simp), pow_shl (by omega), need_ok hne]
        have e1 : (foldN v : Int).tmod ((2 ^ k : Nat) : Int) = ((foldN v % 2 ^ k : Nat) : Int) := rfl
        rw [e1, rput2_U (by omega) (by omega) (by have := pow_cast k; omega) (by rw [b01_length]; simp; omega)]
        simp only [Option.bind_some]
        refine ⟨_, _, rfl, ⟨fun _ => ⟨hv, hu⟩, fun _ => rfl⟩, fun _ => ?_⟩
        rw [← b01_append, Int.toNat_natCast]
        rfl
      · rw [if_pos (by rw [decide_eq_true_eq]; generalize foldN v / 2 ^ k = q at *; omega)]
        exact ⟨_, _, rfl, ⟨fun h => (nomatch h), fun h => absurd h.2 hu⟩, fun h => (nomatch h)⟩
    by_cases hn : v < 0
    · rw [if_pos (by simpa using hn)]
      have e : W ((W ((-2) * v)) - 1) = (foldN v : Int) := by
        unfold foldN
        rw [if_pos hn, W_id (x := -2 * v) (by omega) (by omega), W_id (by omega) (by omega)]
        omega
      rw [e]; exact key
    · rw [if_neg (by simpa using hn)]
      have e : W (2 * v) = (foldN v : Int) := by
        unfold foldN
        rw [if_neg hn, W_id (by omega) (by omega)]
        omega
      rw [e]; exact key
  · rw [if_pos (by unfold InR at hv; rw [Bool.or_eq_true, decide_eq_true_eq, decide_eq_true_eq]; omega)]
    exact ⟨_, _, rfl, ⟨fun h => (nomatch h), fun h => absurd h.1 hv⟩, fun h => (nomatch h)⟩
theorem rone_raw {v : Int} {n : Nat} (hn : n ≤ 48) : ∃ l b, jetsamref05_one v (-1) (n : Int) = some (l, b) ∧ (b = true ↔ InR v ∧ EscOk n v) ∧ (b = true → l = b01 (escBits n v)) := by
  unfold jetsamref05_one
  rw [ite_or]
  by_cases hv : InR v
  · rw [if_neg (by unfold InR at hv; rw [Bool.or_eq_true, decide_eq_true_eq, decide_eq_true_eq]; omega), if_pos (by decide)]
    obtain ⟨c, l, h1, h2, h3⟩ := rput_S (v := v) hn
    rw [h1]
    simp only [Option.bind_some]
    refine ⟨_, _, rfl, ?_, fun h => h3 (by simpa using h)⟩
    rw [beq_iff_eq, h2]
    exact ⟨fun h => ⟨hv, h⟩, fun h => h.2⟩
  · rw [if_pos (by unfold InR at hv; rw [Bool.or_eq_true, decide_eq_true_eq, decide_eq_true_eq]; omega)]
    exact ⟨_, _, rfl, ⟨fun h => (nomatch h), fun h => absurd h.1 hv⟩, fun h => (nomatch h)⟩
/-- The reference's cost, by a parameter. -/
theorem rcost_code {xs : List Int} {k : Nat} (hl : xs.length < 2 ^ 40) (hk : k ≤ 31) : ∃ c, jetsamref05_cost xs (k : Int) = some (c, 0) ∧ (okC k xs → c = lenC k xs) ∧ (¬ okC k xs → c = -1) := by
  unfold jetsamref05_cost
  refine Exists.elim (iter_for (step := jetsamref05_cost_L1 xs (k : Int)) xs.length (fun i a => a = (0, lenC k (xs.take i), (i : Int)) ∧ okC k (xs.take i)) (fun r => r.2 = 0 ∧ (okC k xs → r.1 = lenC k xs) ∧ (¬ okC k xs → r.1 = -1)) (by omega) (fun i a hi ha => ?_) (fun a ha => ?_) (a0 := (0, 0, 0)) ⟨rfl, fun v hv => by simp at hv⟩) (fun r hr => ⟨r.1, by rw [hr.1, ← hr.2.1], hr.2.2⟩)
  · obtain ⟨rfl, hok⟩ := ha
    unfold jetsamref05_cost_L1 jetsamref05_cost_K2
    rw [if_pos (by simpa using hi), if_neg (by rw [decide_eq_true_eq]; omega), idx_nat hi]
    obtain ⟨l, b, h1, h2, h3⟩ := rone_code (v := xs[i]) hk
    simp only [Option.bind_some, h1]
    cases b with
    | false =>
      rw [if_pos (by decide)]
      refine .inr ⟨_, rfl, rfl, fun h => ?_, fun _ => rfl⟩
      have := h2.2 (h _ (List.getElem_mem hi))
      cases this
    | true =>
      rw [if_neg (by decide)]
      have hle := lenC_le hk hok
      have hlen : (xs.take i).length ≤ xs.length := by simp; omega
      have hb := h2.1 rfl
      refine .inl ⟨_, rfl, ?_, fun v hv => ?_⟩
      · rw [W_succ (by omega), h3 rfl, b01_length, codeBits_length]
        have e : lenC k (xs.take (i + 1)) = lenC k (xs.take i) + ((foldN xs[i] / 2 ^ k + 1 + k : Nat) : Int) := by
          rw [List.take_succ_eq_append_getElem hi]
          unfold lenC
          rw [List.map_append, List.sum_append]; simp
        rw [e]
        have hb2 := hb.2
        generalize foldN xs[i] / 2 ^ k = q at *
        rw [W_id (by omega) (by omega)]
      · rw [List.take_succ_eq_append_getElem hi] at hv
        rcases List.mem_append.1 hv with hv | hv
        · exact hok v hv
        · rw [List.mem_singleton] at hv; subst hv; exact hb
  · obtain ⟨rfl, hok⟩ := ha
    unfold jetsamref05_cost_L1 jetsamref05_cost_K1
    rw [List.take_length] at hok
    rw [if_neg (by simp), if_pos (by rw [decide_eq_true_eq]; omega), List.take_length]
    exact ⟨_, rfl, rfl, fun _ => rfl, fun h => absurd hok h⟩
/-- The greatest width. -/
def wid (v : Int) : Nat := match rice_width v with
  | some w => w.toNat
  | none => 0
theorem wid_is {v : Int} (h : InR v) : rice_width v = some (wid v : Int) ∧ wid v ≤ 32 ∧ ∀ n : Nat, n ≤ 48 → (EscOk n v ↔ wid v ≤ n) := by
  obtain ⟨w, h1, h2, h3⟩ := width_min h.1 h.2
  have e : wid v = w := by unfold wid; rw [h1]; rfl
  rw [e]
  exact ⟨h1, h2, h3⟩
def mostW (xs : List Int) : Nat := xs.foldl (fun a v => max a (wid v)) 0
theorem mostW_snoc (xs : List Int) (v : Int) : mostW (xs ++ [v]) = max (mostW xs) (wid v) := by unfold mostW; rw [List.foldl_append]; rfl
theorem mostW_le {xs : List Int} (h : ∀ v, v ∈ xs → InR v) : mostW xs ≤ 32 := by
  have key : ∀ (l : List Int) (a : Nat), a ≤ 32 → (∀ v, v ∈ l → InR v) → l.foldl (fun a v => max a (wid v)) a ≤ 32 := by
    intro l
    induction l with
    | nil => intro a ha _; exact ha
    | cons x l ih =>
      intro a ha h
      have := (wid_is (h x (List.mem_cons_self ..))).2.1
      exact ih _ (by show max a (wid x) ≤ 32; omega) fun v hv => h v (List.mem_cons_of_mem _ hv)
  exact key xs 0 (by omega) h
theorem mostW_ge (xs : List Int) : ∀ v, v ∈ xs → wid v ≤ mostW xs := by
  have key : ∀ (l : List Int) (a : Nat), a ≤ l.foldl (fun a v => max a (wid v)) a ∧ ∀ v, v ∈ l → wid v ≤ l.foldl (fun a v => max a (wid v)) a := by
    intro l
    induction l with
    | nil => intro a; exact ⟨Nat.le_refl _, fun v hv => by cases hv⟩
    | cons x l ih =>
      intro a
      obtain ⟨h1, h2⟩ := ih (max a (wid x))
      refine ⟨by simp only [List.foldl_cons]; omega, fun v hv => ?_⟩
      simp only [List.foldl_cons]
      rcases List.mem_cons.1 hv with rfl | hv
      · omega
      · exact h2 v hv
  exact (key xs 0).2
/-- The reference's cost, raw. -/
theorem rcost_raw {xs : List Int} (hl : xs.length < 2 ^ 40) : ∃ r, jetsamref05_cost xs (-1) = some r ∧ ((∀ v, v ∈ xs → InR v) → r = if mostW xs ≤ 31 then (5 + (mostW xs : Int) * xs.length, (mostW xs : Int)) else (-1, 0)) ∧ (¬ (∀ v, v ∈ xs → InR v) → r = (-1, 0)) := by
  have hone : ∀ (a2 : Int × Int × Int) (i : Nat), a2.2.2 = (i : Int) → (hi : i < xs.length) → ∃ q : Nat, q ≤ 32 ∧ (InR xs[i] → q = wid xs[i]) ∧ (¬ InR xs[i] → q = 32) ∧ iter (jetsamref05_cost_L2 xs a2) 0 = some (.inl ((if (q : Int) > a2.1 then (q : Int) else a2.1), a2.2.1, W (a2.2.2 + 1))) := by
    intro a2 i ha hi
    have hq : ∃ q : Nat, q ≤ 32 ∧ (InR xs[i] → q = wid xs[i]) ∧ (¬ InR xs[i] → q = 32) := by
      by_cases h : InR xs[i]
      · exact ⟨wid xs[i], (wid_is h).2.1, fun _ => rfl, fun h2 => absurd h h2⟩
      · exact ⟨32, by omega, fun h2 => absurd h2 h, fun _ => rfl⟩
    obtain ⟨q, q1, q2, q3⟩ := hq
    refine ⟨q, q1, q2, q3, ?_⟩
    refine Exists.elim (iter_for (step := jetsamref05_cost_L2 xs a2) q (fun j b => b = (j : Int)) (fun r => r = .inl ((if (q : Int) > a2.1 then (q : Int) else a2.1), a2.2.1, W (a2.2.2 + 1))) (by omega) (fun j b hj hb => ?_) (fun b hb => ?_) (a0 := 0) rfl) (fun r hr => by rw [hr.1, hr.2])
    · subst hb
      left
      unfold jetsamref05_cost_L2
      obtain ⟨l, bb, h1, h2, h3⟩ := rone_raw (v := xs[i]) (n := j) (by omega)
      have hbb : bb = false := by
        cases bb with
        | false => rfl
        | true =>
          obtain ⟨g1, g2⟩ := h2.1 rfl
          have := ((wid_is g1).2.2 j (by omega)).1 g2
          have := q2 g1
          omega
      rw [if_pos (by rw [decide_eq_true_eq]; omega), ha, idx_nat hi]
      simp only [Option.bind_some, h1, hbb]
      exact ⟨_, rfl, W_succ (by omega)⟩
    · subst hb
      unfold jetsamref05_cost_L2 jetsamref05_cost_K3 jetsamref05_cost_K2
      by_cases h32 : q = 32
      · rw [if_neg (by rw [decide_eq_true_eq]; omega)]
        exact ⟨_, rfl, rfl⟩
      · have hin : InR xs[i] := Classical.byContradiction fun h => h32 (q3 h)
        obtain ⟨l, bb, h1, h2, h3⟩ := rone_raw (v := xs[i]) (n := q) (by omega)
        have hbb : bb = true := h2.2 ⟨hin, ((wid_is hin).2.2 q (by omega)).2 (by rw [q2 hin]; exact Nat.le_refl _)⟩
        rw [if_pos (by rw [decide_eq_true_eq]; omega), ha, idx_nat hi]
        simp only [Option.bind_some, h1, hbb, if_true]
        exact ⟨_, rfl, rfl⟩
  unfold jetsamref05_cost
  refine Exists.elim (iter_for (step := jetsamref05_cost_L1 xs (-1)) xs.length (fun i a => a.2 = (0, (i : Int)) ∧ 0 ≤ a.1 ∧ a.1 ≤ 32 ∧ ((∀ v, v ∈ xs.take i → InR v) → a.1 = (mostW (xs.take i) : Int)) ∧ (¬ (∀ v, v ∈ xs.take i → InR v) → a.1 = 32)) (fun r => ((∀ v, v ∈ xs → InR v) → r = if mostW xs ≤ 31 then (5 + (mostW xs : Int) * xs.length, (mostW xs : Int)) else (-1, 0)) ∧ (¬ (∀ v, v ∈ xs → InR v) → r = (-1, 0))) (by omega) (fun i a hi ha => ?_) (fun a ha => ?_) (a0 := (0, 0, 0)) ⟨rfl, by decide, by decide, fun _ => rfl, fun h => absurd (fun v hv => by simp at hv) h⟩) (fun r hr => ⟨r, hr.1, hr.2⟩)
  · obtain ⟨h1, h2, h2', h3, h4⟩ := ha
    have hi2 : a.2.2 = (i : Int) := by rw [h1]
    have hi1 : a.2.1 = 0 := by rw [h1]
    left
    unfold jetsamref05_cost_L1
    obtain ⟨q, q1, q2, q3, q4⟩ := hone a i hi2 hi
    rw [hi2, if_pos (by simpa using hi), if_pos (by decide), q4]
    refine ⟨_, rfl, by rw [hi1, hi2, W_succ (by omega)], ?_, ?_, fun hall => ?_, fun hnot => ?_⟩
    · show 0 ≤ (if (q : Int) > a.1 then (q : Int) else a.1)
      split <;> omega
    · show (if (q : Int) > a.1 then (q : Int) else a.1) ≤ 32
      split <;> omega
    · show (if (q : Int) > a.1 then (q : Int) else a.1) = _
      rw [List.take_succ_eq_append_getElem hi] at hall ⊢
      have hin : InR xs[i] := hall _ (List.mem_append_right _ (List.mem_singleton.2 rfl))
      have := h3 fun v hv => hall v (List.mem_append_left _ hv)
      have := q2 hin
      rw [mostW_snoc]
      split <;> omega
    · show (if (q : Int) > a.1 then (q : Int) else a.1) = 32
      by_cases hin : InR xs[i]
      · have : ¬ ∀ v, v ∈ xs.take i → InR v := fun h => hnot fun v hv => by
          rw [List.take_succ_eq_append_getElem hi] at hv
          rcases List.mem_append.1 hv with hv | hv
          · exact h v hv
          · rw [List.mem_singleton] at hv; subst hv; exact hin
        have := h4 this
        split <;> omega
      · have := q3 hin
        split <;> omega
  · obtain ⟨h1, h2, h2', h3, h4⟩ := ha
    have hi2 : a.2.2 = (xs.length : Int) := by rw [h1]
    have hi1 : a.2.1 = 0 := by rw [h1]
    unfold jetsamref05_cost_L1 jetsamref05_cost_K1
    rw [List.take_length] at h3 h4
    rw [hi2, if_neg (by simp), if_neg (by decide)]
    by_cases hall : ∀ v, v ∈ xs → InR v
    · have ha := h3 hall
      have hle := mostW_le hall
      simp only [ha]
      by_cases h31 : mostW xs ≤ 31
      · rw [if_neg (by rw [decide_eq_true_eq]; omega)]
        refine ⟨_, rfl, fun _ => ?_, fun h => absurd hall h⟩
        have hm : mostW xs * xs.length ≤ 31 * 2 ^ 40 := Nat.mul_le_mul h31 (by omega)
        have e : (mostW xs : Int) * (xs.length : Int) = ((mostW xs * xs.length : Nat) : Int) := by push_cast; rfl
        rw [if_pos h31, e, W_id (x := ((mostW xs * xs.length : Nat) : Int)) (by omega) (by omega), W_id (by omega) (by omega)]
      · rw [if_pos (by rw [decide_eq_true_eq]; omega)]
        exact ⟨_, rfl, fun _ => by rw [if_neg h31], fun h => absurd hall h⟩
    · have ha := h4 hall
      simp only [ha]
      rw [if_pos (by decide)]
      exact ⟨_, rfl, fun h => absurd h hall, fun _ => rfl⟩
end Go.Vg

namespace Go.Vg

open Classical in
/-- What a part costs by a parameter, or raw (-1); -1: it may not be. -/
noncomputable def costP (xs : List Int) (y : Int) : Int × Int :=
  if 0 ≤ y then (if okC y.toNat xs then lenC y.toNat xs else -1, 0)
  else if (∀ v, v ∈ xs → InR v) ∧ mostW xs ≤ 31 then (5 + (mostW xs : Int) * xs.length, (mostW xs : Int)) else (-1, 0)
noncomputable def stepP (xs : List Int) (a : Int × Int × Int) (y : Int) : Int × Int × Int :=
  if (costP xs y).1 ≥ 0 ∧ (a.1 < 0 ∨ (costP xs y).1 < a.1) then ((costP xs y).1, y, (costP xs y).2) else a
noncomputable def codedP (xs : List Int) : Nat → Int × Int × Int
  | 0 => (-1, 0, 0)
  | i + 1 => stepP xs (codedP xs i) (i : Int)
noncomputable def bestP (m : Nat) (xs : List Int) : Int × Int × Int := stepP xs (codedP xs (escN m)) (-1)

theorem costP_bound {xs : List Int} {y : Int} (hl : xs.length < 2 ^ 20) (hy : y = -1 ∨ 0 ≤ y ∧ y ≤ 31) : -1 ≤ (costP xs y).1 ∧ (costP xs y).1 ≤ 137438953472 ∧ 0 ≤ (costP xs y).2 ∧ (costP xs y).2 ≤ 31 := by
  unfold costP
  by_cases h : 0 ≤ y
  · rw [if_pos h]
    split
    · rename_i hok
      have := lenC_le (k := y.toNat) (by omega) hok
      simp only
      omega
    · decide
  · rw [if_neg h]
    split
    · rename_i hc
      have : mostW xs * xs.length ≤ 31 * 2 ^ 20 := Nat.mul_le_mul hc.2 (by omega)
      have e : (mostW xs : Int) * (xs.length : Int) = ((mostW xs * xs.length : Nat) : Int) := by push_cast; rfl
      simp only
      rw [e]
      omega
    · decide
/-- A part's answer is one of its costs. -/
def isCost (m : Nat) (xs : List Int) (a : Int × Int × Int) : Prop := (a.2.1 = -1 ∨ 0 ≤ a.2.1 ∧ a.2.1 < escN m) ∧ a.1 = (costP xs a.2.1).1 ∧ a.2.2 = (costP xs a.2.1).2 ∧ 0 ≤ a.1
theorem stepP_is {m : Nat} {xs : List Int} {a : Int × Int × Int} {y : Int} (hy : y = -1 ∨ 0 ≤ y ∧ y < escN m) (ha : a = (-1, 0, 0) ∨ isCost m xs a) : stepP xs a y = (-1, 0, 0) ∨ isCost m xs (stepP xs a y) := by
  unfold stepP
  split
  · rename_i h
    exact .inr ⟨hy, rfl, rfl, h.1⟩
  · exact ha
theorem codedP_is {m : Nat} {xs : List Int} {i : Nat} (hi : i ≤ escN m) : codedP xs i = (-1, 0, 0) ∨ isCost m xs (codedP xs i) := by
  induction i with
  | zero => exact .inl rfl
  | succ i ih => exact stepP_is (.inr ⟨by omega, by omega⟩) (ih (by omega))
theorem bestP_is {m : Nat} {xs : List Int} : bestP m xs = (-1, 0, 0) ∨ isCost m xs (bestP m xs) := stepP_is (.inl rfl) (codedP_is (Nat.le_refl _))
theorem codedP_many {xs : List Int} (i : Nat) : (codedP xs i).2.2 = 0 := by
  induction i with
  | zero => rfl
  | succ i ih =>
    show (stepP xs (codedP xs i) (i : Int)).2.2 = 0
    unfold stepP
    split
    · show (costP xs (i : Int)).2 = 0
      unfold costP
      rw [if_pos (by omega)]
    · exact ih
theorem isCost_bound {m : Nat} (hm : m ≤ 1) {xs : List Int} {a : Int × Int × Int} (hl : xs.length < 2 ^ 20) (h : isCost m xs a) : 0 ≤ a.1 ∧ a.1 ≤ 137438953472 ∧ (a.2.1 = -1 ∨ 0 ≤ a.2.1 ∧ a.2.1 < escN m) ∧ 0 ≤ a.2.2 ∧ a.2.2 ≤ 31 := by
  have hE := escN_le hm
  obtain ⟨h1, h2, h3, h4⟩ := h
  have := costP_bound (y := a.2.1) hl (by omega)
  omega

theorem cost_is {xs : List Int} {y : Int} (hl : xs.length < 2 ^ 40) (hy : y = -1 ∨ 0 ≤ y ∧ y ≤ 31) : jetsamref05_cost xs y = some (costP xs y) := by
  rcases hy with rfl | ⟨h0, h1⟩
  · obtain ⟨r, h1, h2, h3⟩ := rcost_raw (xs := xs) hl
    rw [h1]
    unfold costP
    rw [if_neg (by decide)]
    by_cases hall : ∀ v, v ∈ xs → InR v
    · rw [h2 hall]
      by_cases h31 : mostW xs ≤ 31
      · rw [if_pos h31, if_pos ⟨hall, h31⟩]
      · rw [if_neg h31, if_neg (fun h => h31 h.2)]
    · rw [h3 hall, if_neg (fun h => hall h.1)]
  · obtain ⟨k, rfl⟩ := Int.eq_ofNat_of_zero_le h0
    obtain ⟨c, g1, g2, g3⟩ := rcost_code (xs := xs) (k := k) hl (by omega)
    rw [g1]
    unfold costP
    rw [if_pos h0]
    simp only [Int.toNat_natCast]
    by_cases hok : okC k xs
    · rw [if_pos hok, g2 hok]
    · rw [if_neg hok, g3 hok]

open Classical in
/-- The program's cheapest parameter. -/
theorem cheapest_is {m : Nat} {xs : List Int} (hm : m ≤ 1) (hl : xs.length < 2 ^ 20) (hin : ∀ v, v ∈ xs → InR v) : rice_cheapest (m : Int) xs = some ((bestP m xs).2.1, (bestP m xs).2.2, (bestP m xs).1) := by
  have hE := escN_le hm
  unfold rice_cheapest
  rw [escape_spec hm]
  simp only [Option.bind_some]
  refine Exists.elim (iter_for (step := rice_cheapest_L2 xs (escN m : Int)) (escN m) (fun i a => a = ((codedP xs i).2.1, (codedP xs i).1, (i : Int))) (fun r => r = ((bestP m xs).2.1, (bestP m xs).2.2, (bestP m xs).1)) (by omega) (fun i a hi ha => ?_) (fun a ha => ?_) (a0 := (0, -1, 0)) rfl) (fun r hr => by rw [hr.1, hr.2])
  · subst ha
    left
    unfold rice_cheapest_L2 rice_cheapest_K3
    obtain ⟨c, b, g1, g2, g3⟩ := some_code (xs := xs) (k := i) (by omega) (by omega)
    rw [if_pos (by simpa using hi)]
    simp only [g1, Option.bind_some, ite_or, ite_and]
    have e : codedP xs (i + 1) = stepP xs (codedP xs i) (i : Int) := rfl
    have ec : costP xs (i : Int) = (if okC i xs then lenC i xs else -1, 0) := by
      unfold costP
      rw [if_pos (by omega), Int.toNat_natCast]
    rw [e]
    unfold stepP
    cases b with
    | true =>
      have hok := g2.1 rfl
      have hle := lenC_le (by omega) hok
      rw [ec, if_pos hok, g3 rfl]
      by_cases hc : (codedP xs i).1 < 0 ∨ lenC i xs < (codedP xs i).1
      · rw [if_pos (by rw [Bool.true_and, Bool.or_eq_true, decide_eq_true_eq, decide_eq_true_eq]; exact hc), if_pos ⟨hle.1, hc⟩]
        exact ⟨_, rfl, by rw [W_succ (by omega)]⟩
      · rw [if_neg (by rw [Bool.true_and, Bool.or_eq_true, decide_eq_true_eq, decide_eq_true_eq]; exact hc), if_neg (fun h => hc h.2)]
        exact ⟨_, rfl, by rw [W_succ (by omega)]⟩
    | false =>
      have hok : ¬ okC i xs := fun h => by have := g2.2 h; cases this
      rw [ec, if_neg hok, if_neg (by simp), if_neg (fun h => by have := h.1; simp at this)]
      exact ⟨_, rfl, by rw [W_succ (by omega)]⟩
  · subst ha
    unfold rice_cheapest_L2 rice_cheapest_K1
    rw [if_neg (by simp)]
    generalize hcp : codedP xs (escN m) = cp at *
    have hcb : cp.1 = -1 ∧ cp = (-1, 0, 0) ∨ 0 ≤ cp.1 := by
      rcases codedP_is (m := m) (xs := xs) (i := escN m) (Nat.le_refl _) with h | h
      · rw [hcp] at h; rw [h]; exact .inl ⟨rfl, rfl⟩
      · rw [hcp] at h; exact .inr h.2.2.2
    have hmany : cp.2.2 = 0 := by rw [← hcp]; exact codedP_many _
    have hw32 := mostW_le hin
    refine Exists.elim (iter_for (step := rice_cheapest_L1 xs (cp.2.1, cp.1)) xs.length (fun i b => b = ((mostW (xs.take i) : Int), (i : Int))) (fun r => r = ((bestP m xs).2.1, (bestP m xs).2.2, (bestP m xs).1)) (by omega) (fun i b hi hb => ?_) (fun b hb => ?_) (a0 := (0, 0)) rfl) (fun r hr => ⟨r, by rw [hr.1]; rfl, hr.2⟩)
    · subst hb
      left
      unfold rice_cheapest_L1
      rw [if_pos (by simpa using hi), idx_nat hi]
      simp only [Option.bind_some, (wid_is (hin _ (List.getElem_mem hi))).1]
      refine ⟨_, rfl, ?_⟩
      rw [W_succ (by omega), List.take_succ_eq_append_getElem hi, mostW_snoc]
      refine congrArg (fun z : Int => (z, ((i + 1 : Nat) : Int))) ?_
      split <;> omega
    · subst hb
      unfold rice_cheapest_L1 rice_cheapest_K2
      rw [if_neg (by simp), List.take_length, ite_or, ite_and]
      have hmul : mostW xs * xs.length ≤ 32 * 2 ^ 20 := Nat.mul_le_mul hw32 (by omega)
      have e : (mostW xs : Int) * (xs.length : Int) = ((mostW xs * xs.length : Nat) : Int) := by push_cast; rfl
      have eW : W (5 + W ((mostW xs : Int) * (xs.length : Int))) = 5 + (mostW xs : Int) * xs.length := by
        rw [e, W_id (x := ((mostW xs * xs.length : Nat) : Int)) (by omega) (by omega), W_id (by omega) (by omega)]
      simp only [eW]
      unfold bestP stepP
      rw [hcp]
      have ec : costP xs (-1) = if mostW xs ≤ 31 then (5 + (mostW xs : Int) * xs.length, (mostW xs : Int)) else (-1, 0) := by
        unfold costP
        rw [if_neg (by decide)]
        by_cases h31 : mostW xs ≤ 31
        · rw [if_pos ⟨hin, h31⟩, if_pos h31]
        · rw [if_neg (fun h => h31 h.2), if_neg h31]
      rw [ec]
      by_cases h31 : mostW xs ≤ 31
      · rw [if_pos h31]
        by_cases hc : cp.1 < 0 ∨ 5 + (mostW xs : Int) * xs.length < cp.1
        · rw [if_pos (by rw [Bool.and_eq_true, Bool.or_eq_true, decide_eq_true_eq, decide_eq_true_eq, decide_eq_true_eq]; exact ⟨by omega, hc⟩), if_pos ⟨by simp only; rw [e]; omega, hc⟩]
          exact ⟨_, rfl, rfl⟩
        · rw [if_neg (by rw [Bool.and_eq_true, Bool.or_eq_true, decide_eq_true_eq, decide_eq_true_eq, decide_eq_true_eq]; exact fun h => hc h.2), if_neg (fun h => hc h.2)]
          exact ⟨_, rfl, by rw [hmany]⟩
      · rw [if_neg h31, if_neg (by rw [Bool.and_eq_true, decide_eq_true_eq]; exact fun h => h31 (by omega)), if_neg (fun h => by have := h.1; simp at this)]
        exact ⟨_, rfl, by rw [hmany]⟩

/-- The reference's. -/
theorem rparam_is {m : Nat} {o : Int} {a2 : Int × Int × Int × List Int × List Int} {j4 : Int × List Int} {R : (Int × Int × Int × List Int × List Int) ⊕ (Int × jetsamref05_Plan)} (hm : m ≤ 1) (hl : j4.2.length < 2 ^ 20) (hR : jetsamref05_Least_K4 (m : Int) o a2 j4 (bestP m j4.2) = some R) :
    jetsamref05_Least_K3 (m : Int) o a2 j4 = some R := by
  have hE := escN_le hm
  have hW : W (15 + W (16 * (m : Int))) = (escN m : Int) := by
    rcases (show m = 0 ∨ m = 1 by omega) with rfl | rfl <;> decide
  unfold jetsamref05_Least_K3
  have hK6 : ∀ (a8 : Int × Int × Int × Int) (y : Int), (y = -1 ∨ 0 ≤ y ∧ y ≤ 31) → jetsamref05_Least_K6 j4 a8 y = some (.inl ((stepP j4.2 (a8.1, a8.2.1, a8.2.2.1) y).1, (stepP j4.2 (a8.1, a8.2.1, a8.2.2.1) y).2.1, (stepP j4.2 (a8.1, a8.2.1, a8.2.2.1) y).2.2, W (a8.2.2.2 + 1))) := by
    intro a8 y hy
    unfold jetsamref05_Least_K6 jetsamref05_Least_K5
    rw [cost_is (by omega) hy]
    simp only [Option.bind_some, ite_or, ite_and]
    unfold stepP
    by_cases hc : (costP j4.2 y).1 ≥ 0 ∧ (a8.1 < 0 ∨ (costP j4.2 y).1 < a8.1)
    · rw [if_pos (by rw [Bool.and_eq_true, Bool.or_eq_true, decide_eq_true_eq, decide_eq_true_eq, decide_eq_true_eq]; exact hc), if_pos hc]
    · rw [if_neg (by rw [Bool.and_eq_true, Bool.or_eq_true, decide_eq_true_eq, decide_eq_true_eq, decide_eq_true_eq]; exact hc), if_neg hc]
  refine Exists.elim (iter_for (step := jetsamref05_Least_L2 (m : Int) o a2 j4) (escN m + 1) (fun i a => (i ≤ escN m → a = ((codedP j4.2 i).1, (codedP j4.2 i).2.1, (codedP j4.2 i).2.2, (i : Int))) ∧ (i = escN m + 1 → a = ((bestP m j4.2).1, (bestP m j4.2).2.1, (bestP m j4.2).2.2, (i : Int)))) (fun r => r = R) (by omega) (fun i a hi ha => ?_) (fun a ha => ?_) (a0 := (-1, 0, 0, 0)) ⟨fun _ => rfl, fun h => by omega⟩) (fun r hr => by rw [hr.1, hr.2])
  · have ha := ha.1 (by omega)
    subst ha
    left
    unfold jetsamref05_Least_L2
    dsimp only
    rw [hW, if_pos (by rw [decide_eq_true_eq]; omega)]
    by_cases he : i = escN m
    · rw [if_pos (by rw [beq_iff_eq]; omega), hK6 _ _ (.inl rfl)]
      refine ⟨_, rfl, fun h => by omega, fun _ => ?_⟩
      rw [W_succ (by omega)]
      unfold bestP
      rw [← he]
    · rw [if_neg (by rw [beq_iff_eq]; omega), hK6 _ _ (.inr ⟨by omega, by omega⟩)]
      refine ⟨_, rfl, fun _ => ?_, fun h => by omega⟩
      rw [W_succ (by omega)]
      rfl
  · have ha := ha.2 rfl
    subst ha
    unfold jetsamref05_Least_L2
    dsimp only
    rw [hW, if_neg (by rw [decide_eq_true_eq]; omega)]
    simp only [hR]
    exact ⟨_, rfl, rfl⟩
end Go.Vg

namespace Go.Vg

/-- The best parameters of the first parts, and their bits in all; none: of one there is none. -/
noncomputable def leastN (m s skip : Nat) (d : List Int) : Nat → Option (Int × List Int × List Int)
  | 0 => some (6, [], [])
  | k + 1 => (leastN m s skip d k).bind fun a =>
    if (bestP m (partXs d s skip k)).1 < 0 then none
    else some (a.1 + 4 + m + (bestP m (partXs d s skip k)).1, a.2.1 ++ [(bestP m (partXs d s skip k)).2.1], a.2.2 ++ [(bestP m (partXs d s skip k)).2.2])
theorem partXs_len (d : List Int) (s skip k : Nat) : (partXs d s skip k).length ≤ d.length := by unfold partXs; simp; omega
theorem leastN_bound {m s skip : Nat} {d : List Int} (hm : m ≤ 1) (hd : d.length < 2 ^ 20) {k : Nat} {a : Int × List Int × List Int} (h : leastN m s skip d k = some a) : 6 ≤ a.1 ∧ a.1 ≤ 6 + k * 137438953482 ∧ a.2.1.length = k ∧ a.2.2.length = k := by
  induction k generalizing a with
  | zero => cases h; exact ⟨by decide, by decide, rfl, rfl⟩
  | succ k ih =>
    unfold leastN at h
    obtain ⟨b, h1, h2⟩ := Option.bind_eq_some_iff.1 h
    have := ih h1
    split at h2
    · cases h2
    · rename_i hc
      cases h2
      have hx := partXs_len d s skip k
      have hb : 0 ≤ (bestP m (partXs d s skip k)).1 ∧ (bestP m (partXs d s skip k)).1 ≤ 137438953472 := by
        rcases bestP_is (m := m) (xs := partXs d s skip k) with e | e
        · rw [e] at hc; exact absurd (by decide) hc
        · have := isCost_bound hm (by omega) e
          omega
      refine ⟨?_, ?_, by simp; omega, by simp; omega⟩
      · show 6 ≤ b.1 + 4 + (m : Int) + (bestP m (partXs d s skip k)).1
        omega
      · show b.1 + 4 + (m : Int) + (bestP m (partXs d s skip k)).1 ≤ 6 + ((k + 1 : Nat) : Int) * 137438953482
        push_cast
        omega

/-- The residuals of a part, one by one. -/
theorem rmine_is {m o skip k : Nat} {d : List Int} {a2 : Int × Int × Int × List Int × List Int} {R : (Int × Int × Int × List Int × List Int) ⊕ (Int × jetsamref05_Plan)} (hskip : skip ≤ 32) (hd : d.length < 2 ^ 20) (ho : o ≤ 15) (hdv : (d.length + skip) % 2 ^ o = 0) (hmo : skip < (d.length + skip) / 2 ^ o) (hk : k < 2 ^ o) (h1 : a2.2.1 = ((k * ((d.length + skip) / 2 ^ o) - skip : Nat) : Int)) (h2 : a2.2.2.1 = (k : Int))
    (hR : jetsamref05_Least_K3 (m : Int) (o : Int) a2 ((((k + 1) * ((d.length + skip) / 2 ^ o) - skip : Nat) : Int), partXs d ((d.length + skip) / 2 ^ o) skip k) = some R) :
    iter (jetsamref05_Least_L3 (m : Int) (o : Int) (skip : Int) d a2) (a2.2.1, []) = some R := by
  have hp : 0 < (2 : Nat) ^ o := Nat.pow_pos (by omega)
  have hpl : (2 : Nat) ^ o ≤ 2 ^ 15 := pow_le ho
  have hb : 2 ^ o * ((d.length + skip) / 2 ^ o) = d.length + skip := by have := Nat.div_add_mod (d.length + skip) (2 ^ o); omega
  have hle : (k + 1) * ((d.length + skip) / 2 ^ o) ≤ 2 ^ o * ((d.length + skip) / 2 ^ o) := Nat.mul_le_mul_right _ hk
  have hsucc : (k + 1) * ((d.length + skip) / 2 ^ o) = k * ((d.length + skip) / 2 ^ o) + (d.length + skip) / 2 ^ o := Nat.succ_mul ..
  have e0 : W ((d.length : Int) + (skip : Int)) = ((d.length + skip : Nat) : Int) := by rw [W_id (by omega) (by omega)]; omega
  have hpart : ∀ (at_ : Nat) (ps bs : List Int), at_ ≤ d.length → jetsamref05_part ⟨(m : Int), (o : Int), ps, bs⟩ ((d.length + skip : Nat) : Int) (skip : Int) (at_ : Int) = some (((at_ + skip) / ((d.length + skip) / 2 ^ o) : Nat) : Int) := by
    intro at_ ps bs hat
    unfold jetsamref05_part
    have hne : ((((2 ^ o : Nat) : Int)) != 0) = true := by rw [bne_iff_ne]; omega
    have e1 : ((d.length + skip : Nat) : Int).tdiv ((2 ^ o : Nat) : Int) = (((d.length + skip) / 2 ^ o : Nat) : Int) := rfl
    have hq : (d.length + skip) / 2 ^ o ≤ d.length + skip := Nat.div_le_self _ _
    have e2 : W (((d.length + skip) / 2 ^ o : Nat) : Int) = (((d.length + skip) / 2 ^ o : Nat) : Int) := by
      generalize (d.length + skip) / 2 ^ o = q at *
      exact W_id (by omega) (by omega)
    have hne2 : ((((d.length + skip) / 2 ^ o : Nat) : Int) != 0) = true := by
      rw [bne_iff_ne]
      generalize (d.length + skip) / 2 ^ o = q at *
      omega
    have e3 : W ((at_ : Int) + (skip : Int)) = ((at_ + skip : Nat) : Int) := by rw [W_id (by omega) (by omega)]; omega
    rw [need_ok (by simp), pow_shl (by omega), need_ok hne, e1, e2, need_ok hne2, e3]
    have e4 : ((at_ + skip : Nat) : Int).tdiv (((d.length + skip) / 2 ^ o : Nat) : Int) = (((at_ + skip) / ((d.length + skip) / 2 ^ o) : Nat) : Int) := rfl
    have hq2 : (at_ + skip) / ((d.length + skip) / 2 ^ o) ≤ at_ + skip := Nat.div_le_self _ _
    rw [e4]
    generalize (at_ + skip) / ((d.length + skip) / 2 ^ o) = q at *
    rw [W_id (by omega) (by omega)]
  generalize hs : (d.length + skip) / 2 ^ o = s at *
  have hs0 : 0 < s := by omega
  have hxl : (partXs d s skip k).length = ((k + 1) * s - skip) - (k * s - skip) := by
    unfold partXs
    rw [List.length_take, List.length_drop]
    omega
  have hget : ∀ i (h : i < (partXs d s skip k).length), (partXs d s skip k)[i] = d[k * s - skip + i]'(by omega) := by
    intro i h
    apply Option.some.inj
    rw [← List.getElem?_eq_getElem h, ← List.getElem?_eq_getElem]
    unfold partXs
    rw [List.getElem?_take, if_pos (by omega), List.getElem?_drop]
  refine Exists.elim (iter_for (step := jetsamref05_Least_L3 (m : Int) (o : Int) (skip : Int) d a2) (partXs d s skip k).length (fun i a => a = (((k * s - skip + i : Nat) : Int), (partXs d s skip k).take i)) (fun r => r = R) (by omega) (fun i a hi ha => ?_) (fun a ha => ?_) (a0 := (a2.2.1, [])) (by rw [h1]; rfl)) (fun r hr => by rw [hr.1, hr.2])
  · subst ha
    left
    unfold jetsamref05_Least_L3
    have hlt : k * s - skip + i < d.length := by omega
    rw [if_pos (by rw [decide_eq_true_eq]; simp only; omega), e0, h2]
    simp only [hpart _ _ _ (Nat.le_of_lt hlt), Option.bind_some]
    have hdiv : (k * s - skip + i + skip) / s = k := by
      rw [Nat.div_eq_iff hs0]
      rw [hxl] at hi
      constructor
      · omega
      · have : (k + 1) * s = k * s + s := Nat.succ_mul ..
        omega
    rw [hdiv, if_pos (by simp), idx_nat hlt]
    simp only [Option.bind_some]
    rw [app_ok (by simp; omega)]
    simp only [Option.bind_some]
    refine ⟨_, rfl, ?_⟩
    rw [W_succ (by omega), List.take_succ_eq_append_getElem hi, hget i hi]
    rfl
  · subst ha
    unfold jetsamref05_Least_L3
    have hend : k * s - skip + (partXs d s skip k).length = (k + 1) * s - skip := by rw [hxl]; omega
    rw [hend, List.take_length]
    by_cases hlt : (k + 1) * s - skip < d.length
    · rw [if_pos (by rw [decide_eq_true_eq]; simp only; omega), e0, h2]
      simp only [hpart _ _ _ (Nat.le_of_lt hlt), Option.bind_some]
      have hdiv : ((k + 1) * s - skip + skip) / s = k + 1 := by
        rw [show (k + 1) * s - skip + skip = (k + 1) * s by omega, Nat.mul_div_cancel _ hs0]
      rw [hdiv, if_neg (by rw [beq_iff_eq]; omega), hR]
      exact ⟨_, rfl, rfl⟩
    · rw [if_neg (by rw [decide_eq_true_eq]; simp only; omega), hR]
      exact ⟨_, rfl, rfl⟩
/-- The reference's least. -/
theorem rleast_is {m o skip : Nat} {d : List Int} (hm : m ≤ 1) (hskip : skip ≤ 32) (hd : d.length < 2 ^ 20) (ho : o ≤ 15) (hdv : (d.length + skip) % 2 ^ o = 0) (hmo : skip < (d.length + skip) / 2 ^ o) :
    ∃ n q, jetsamref05_Least (m : Int) (o : Int) (skip : Int) d = some (n, q) ∧ (∀ a, leastN m ((d.length + skip) / 2 ^ o) skip d (2 ^ o) = some a → n = a.1 ∧ q = ⟨(m : Int), (o : Int), a.2.1, a.2.2⟩) ∧ (leastN m ((d.length + skip) / 2 ^ o) skip d (2 ^ o) = none → n = -1) := by
  have hpl : (2 : Nat) ^ o ≤ 2 ^ 15 := pow_le ho
  have hnone : ∀ k j, leastN m ((d.length + skip) / 2 ^ o) skip d k = none → leastN m ((d.length + skip) / 2 ^ o) skip d (k + j) = none := by
    intro k j h
    induction j with
    | zero => exact h
    | succ j ih =>
      show (leastN m ((d.length + skip) / 2 ^ o) skip d (k + j)).bind _ = none
      rw [ih]; rfl
  unfold jetsamref05_Least
  refine Exists.elim (iter_for (step := jetsamref05_Least_L1 (m : Int) (o : Int) (skip : Int) d) (2 ^ o) (fun k a => ∃ b, leastN m ((d.length + skip) / 2 ^ o) skip d k = some b ∧ a = (b.1, ((k * ((d.length + skip) / 2 ^ o) - skip : Nat) : Int), (k : Int), b.2.1, b.2.2)) (fun r => (∀ a, leastN m ((d.length + skip) / 2 ^ o) skip d (2 ^ o) = some a → r.1 = a.1 ∧ r.2 = ⟨(m : Int), (o : Int), a.2.1, a.2.2⟩) ∧ (leastN m ((d.length + skip) / 2 ^ o) skip d (2 ^ o) = none → r.1 = -1)) (by omega) (fun k a hk ha => ?_) (fun a ha => ?_) (a0 := (6, 0, 0, [], [])) ⟨_, rfl, by simp⟩) (fun r hr => ⟨r.1, r.2, hr⟩)
  · obtain ⟨b, hb, rfl⟩ := ha
    obtain ⟨b1, b2, b3, b4⟩ := leastN_bound hm hd hb
    have hkb : (k : Int) * 137438953482 ≤ 32768 * 137438953482 := Int.mul_le_mul_of_nonneg_right (by omega) (by decide)
    unfold jetsamref05_Least_L1
    rw [need_ok (by simp), pow_shl (by omega), if_pos (by rw [decide_eq_true_eq]; simp only; omega)]
    have hx := partXs_len d ((d.length + skip) / 2 ^ o) skip k
    by_cases hneg : (bestP m (partXs d ((d.length + skip) / 2 ^ o) skip k)).1 < 0
    · right
      have hstep : leastN m ((d.length + skip) / 2 ^ o) skip d (k + 1) = none := by
        unfold leastN
        rw [hb]
        simp only [Option.bind_some]
        rw [if_pos hneg]
      have hall : leastN m ((d.length + skip) / 2 ^ o) skip d (2 ^ o) = none := by
        have := hnone (k + 1) (2 ^ o - (k + 1)) hstep
        rw [show k + 1 + (2 ^ o - (k + 1)) = 2 ^ o by omega] at this
        exact this
      refine ⟨_, rmine_is hskip hd ho hdv hmo hk rfl rfl (rparam_is hm (by simp only; omega) (by
        unfold jetsamref05_Least_K4
        rw [if_pos (by simpa using hneg)]
        rfl)), fun a h => ?_, fun _ => rfl⟩
      rw [hall] at h; cases h
    · left
      have hbp : 0 ≤ (bestP m (partXs d ((d.length + skip) / 2 ^ o) skip k)).1 ∧ (bestP m (partXs d ((d.length + skip) / 2 ^ o) skip k)).1 ≤ 137438953472 := by
        rcases bestP_is (m := m) (xs := partXs d ((d.length + skip) / 2 ^ o) skip k) with e | e
        · rw [e] at hneg; exact absurd (by decide) hneg
        · have := isCost_bound hm (by omega) e
          omega
      refine ⟨_, rmine_is hskip hd ho hdv hmo hk rfl rfl (rparam_is hm (by simp only; omega) (by
        unfold jetsamref05_Least_K4 jetsamref05_Least_K2
        rw [if_neg (by simpa using hneg), app_ok (by simp only [List.length_append, List.length_singleton]; omega), app_ok (by simp only [List.length_append, List.length_singleton]; omega)]
        rfl)), ?_⟩
      refine ⟨(b.1 + 4 + m + (bestP m (partXs d ((d.length + skip) / 2 ^ o) skip k)).1, b.2.1 ++ [(bestP m (partXs d ((d.length + skip) / 2 ^ o) skip k)).2.1], b.2.2 ++ [(bestP m (partXs d ((d.length + skip) / 2 ^ o) skip k)).2.2]), ?_, ?_⟩
      · unfold leastN
        rw [hb]
        simp only [Option.bind_some]
        rw [if_neg hneg]
      · dsimp only
        rw [W_succ (by omega), W_id (x := b.1 + 4) (by omega) (by omega), W_id (x := b.1 + 4 + (m : Int)) (by omega) (by omega), W_id (by omega) (by omega)]
  · obtain ⟨b, hb, rfl⟩ := ha
    unfold jetsamref05_Least_L1 jetsamref05_Least_K1
    rw [need_ok (by simp), pow_shl (by omega), if_neg (by rw [decide_eq_true_eq]; simp only; omega)]
    refine ⟨_, rfl, fun a h => ?_, fun h => ?_⟩
    · rw [hb] at h; cases h; exact ⟨rfl, rfl⟩
    · rw [hb] at h; cases h

/-! ### All plans -/
noncomputable def planStep (d : List Int) (skip : Nat) (a : Int × Int × Int × List Int × List Int) (m o : Nat) : Int × Int × Int × List Int × List Int :=
  if (d.length + skip) % 2 ^ o = 0 ∧ skip < (d.length + skip) / 2 ^ o then
    match leastN m ((d.length + skip) / 2 ^ o) skip d (2 ^ o) with
    | some b => if a.1 < 0 ∨ b.1 < a.1 then (b.1, (m : Int), (o : Int), b.2.1, b.2.2) else a
    | none => a
  else a
noncomputable def orders (d : List Int) (skip m : Nat) (a : Int × Int × Int × List Int × List Int) : Nat → Int × Int × Int × List Int × List Int
  | 0 => a
  | o + 1 => planStep d skip (orders d skip m a o) m o
noncomputable def methods (d : List Int) (skip : Nat) : Nat → Int × Int × Int × List Int × List Int
  | 0 => (-1, 0, 0, [], [])
  | m + 1 => orders d skip m (methods d skip m) 5
end Go.Vg

namespace Go.Vg

theorem rhead_spec (m o b s : Int) : ∃ c, jetsamref05_Head m o b s = some c ∧ (c = 0 ↔ HeadOk m o b s) := by
  unfold jetsamref05_Head
  simp only [ite_or]
  by_cases h1 : (b < 1 ∨ b > 65535) ∨ s < 0 ∨ s > 32
  · rw [if_pos (by simp only [Bool.or_eq_true, decide_eq_true_eq]; omega)]
    exact ⟨_, rfl, fun h => (nomatch h), fun h => by have := h.b1; have := h.b2; have := h.s1; have := h.s2; omega⟩
  rw [if_neg (by simp only [Bool.or_eq_true, decide_eq_true_eq]; omega)]
  by_cases h2 : (m < 0 ∨ m > 1) ∨ o < 0 ∨ o > 15
  · rw [if_pos (by simp only [Bool.or_eq_true, decide_eq_true_eq]; omega)]
    exact ⟨_, rfl, fun h => (nomatch h), fun h => by have := h.m1; have := h.m2; have := h.o1; have := h.o2; omega⟩
  rw [if_neg (by simp only [Bool.or_eq_true, decide_eq_true_eq]; omega)]
  obtain ⟨p, rfl⟩ := Int.eq_ofNat_of_zero_le (show 0 ≤ o by omega)
  obtain ⟨n, rfl⟩ := Int.eq_ofNat_of_zero_le (show 0 ≤ b by omega)
  obtain ⟨k, rfl⟩ := Int.eq_ofNat_of_zero_le (show 0 ≤ s by omega)
  have hp : (2 : Nat) ^ p ≤ 2 ^ 15 := pow_le (by omega)
  have h0 : 0 < (2 : Nat) ^ p := Nat.pow_pos (by omega)
  have hne : ((((2 ^ p : Nat) : Int)) != 0) = true := by rw [bne_iff_ne]; omega
  have e1 : (n : Int).tmod ((2 ^ p : Nat) : Int) = ((n % 2 ^ p : Nat) : Int) := rfl
  have e2 : (n : Int).tdiv ((2 ^ p : Nat) : Int) = ((n / 2 ^ p : Nat) : Int) := rfl
  have hq : n / 2 ^ p ≤ n := Nat.div_le_self _ _
  rw [need_ok (by simp), pow_shl (by omega), need_ok hne, e1, need_ok (by simp), need_ok hne, e2]
  have e3 : W (((n / 2 ^ p : Nat) : Int)) = ((n / 2 ^ p : Nat) : Int) := by
    generalize n / 2 ^ p = q at *
    exact W_id (by omega) (by omega)
  rw [e3]
  by_cases h3 : n % 2 ^ p = 0
  · rw [if_neg (by simp [h3])]
    have hdc : ((n / 2 ^ p : Nat) : Int) ≤ (k : Int) ↔ ¬ k < n / 2 ^ p := by
      generalize n / 2 ^ p = q
      omega
    by_cases h4 : k < n / 2 ^ p
    · rw [if_neg (by rw [decide_eq_true_eq, hdc]; exact fun h => h h4)]
      exact ⟨_, rfl, fun _ => ⟨by omega, by omega, by omega, by omega, by omega, by omega, by omega, by omega, h3, h4⟩, fun _ => rfl⟩
    · rw [if_pos (by rw [decide_eq_true_eq, hdc]; exact h4)]
      exact ⟨_, rfl, fun h => (nomatch h), fun h => absurd h.mo h4⟩
  · rw [if_pos (by simp; exact_mod_cast h3)]
    exact ⟨_, rfl, fun h => (nomatch h), fun h => absurd h.dv h3⟩
theorem headOk_iff {m o skip : Nat} {d : List Int} (hm : m ≤ 1) (ho : o ≤ 15) (hs : skip ≤ 32) (h1 : 1 ≤ d.length) (h2 : d.length + skip ≤ 65535) : HeadOk (m : Int) (o : Int) ((d.length + skip : Nat) : Int) (skip : Int) ↔ (d.length + skip) % 2 ^ o = 0 ∧ skip < (d.length + skip) / 2 ^ o := by
  constructor
  · intro h
    have a := h.dv; have b := h.mo
    simp only [Int.toNat_natCast] at a b
    exact ⟨a, b⟩
  · rintro ⟨a, b⟩
    exact ⟨by omega, by omega, by omega, by omega, by omega, by omega, by omega, by omega, by simpa only [Int.toNat_natCast] using a, by simpa only [Int.toNat_natCast] using b⟩

def enc6 (a : Int × Int × Int × List Int × List Int) (i : Nat) : Int × Int × Int × Int × List Int × List Int := (a.1, (i : Int), a.2.1, a.2.2.1, a.2.2.2.1, a.2.2.2.2)
/-- The program's parts, one by one. -/
theorem best_parts {m o skip : Nat} {d : List Int} {a4 a6 : Int × Int × Int × Int × List Int × List Int} (hm : m ≤ 1) (hd : d.length < 2 ^ 20) (ho : o ≤ 15) (hdv : (d.length + skip) % 2 ^ o = 0) (hmo : skip < (d.length + skip) / 2 ^ o) (hin : ∀ v, v ∈ d → InR v) (h4 : a4.2.1 = (m : Int)) :
    foldR (rice_Best_L3 d a4) (rice_Best_K7 a4 a6) (rice_Best_K8 a6) (partsN (d.length + skip) o skip) (6, [], []) = match leastN m ((d.length + skip) / 2 ^ o) skip d (2 ^ o) with
      | some b => rice_Best_K7 a4 a6 b
      | none => rice_Best_K8 a6 (0, [], []) := by
  have hpl : (2 : Nat) ^ o ≤ 2 ^ 15 := pow_le ho
  have hnone : ∀ k j, leastN m ((d.length + skip) / 2 ^ o) skip d k = none → leastN m ((d.length + skip) / 2 ^ o) skip d (k + j) = none := by
    intro k j h
    induction j with
    | zero => exact h
    | succ j ih =>
      show (leastN m ((d.length + skip) / 2 ^ o) skip d (k + j)).bind _ = none
      rw [ih]; rfl
  unfold partsN
  rw [List.range_eq_range']
  have key : ∀ n k x, k + n = 2 ^ o → leastN m ((d.length + skip) / 2 ^ o) skip d k = some x → foldR (rice_Best_L3 d a4) (rice_Best_K7 a4 a6) (rice_Best_K8 a6) ((List.range' k n).map fun (i : Nat) => (Int.ofNat i, (⟨max 0 (Int.ofNat (i * ((d.length + skip) / 2 ^ o)) - Int.ofNat skip), Int.ofNat ((i + 1) * ((d.length + skip) / 2 ^ o)) - Int.ofNat skip⟩ : Arr2 Int))) x = match leastN m ((d.length + skip) / 2 ^ o) skip d (2 ^ o) with
      | some b => rice_Best_K7 a4 a6 b
      | none => rice_Best_K8 a6 (0, [], []) := by
    intro n
    induction n with
    | zero =>
      intro k x hk hx
      obtain rfl : k = 2 ^ o := by omega
      rw [hx]
      rfl
    | succ n ih =>
      intro k x hk hx
      obtain ⟨b1, b2, b3, b4⟩ := leastN_bound hm hd hx
      have hkb : (k : Int) * 137438953482 ≤ 32768 * 137438953482 := Int.mul_le_mul_of_nonneg_right (by omega) (by decide)
      have hxl := partXs_len d ((d.length + skip) / 2 ^ o) skip k
      have hch := cheapest_is (m := m) (xs := partXs d ((d.length + skip) / 2 ^ o) skip k) hm (by omega) (fun v hv => hin v (by unfold partXs at hv; exact List.mem_of_mem_drop (List.mem_of_mem_take hv)))
      have hsub := (part_sub (d := d) rfl hdv hmo (show k < 2 ^ o by omega)).1
      have hstep : leastN m ((d.length + skip) / 2 ^ o) skip d (k + 1) = if (bestP m (partXs d ((d.length + skip) / 2 ^ o) skip k)).1 < 0 then none else some (x.1 + 4 + m + (bestP m (partXs d ((d.length + skip) / 2 ^ o) skip k)).1, x.2.1 ++ [(bestP m (partXs d ((d.length + skip) / 2 ^ o) skip k)).2.1], x.2.2 ++ [(bestP m (partXs d ((d.length + skip) / 2 ^ o) skip k)).2.2]) := by
        show (leastN m ((d.length + skip) / 2 ^ o) skip d k).bind _ = _
        rw [hx]; rfl
      rw [List.range'_succ, List.map_cons, foldR]
      by_cases hneg : (bestP m (partXs d ((d.length + skip) / 2 ^ o) skip k)).1 < 0
      · have hL : rice_Best_L3 d a4 (Int.ofNat k, (⟨max 0 (Int.ofNat (k * ((d.length + skip) / 2 ^ o)) - Int.ofNat skip), Int.ofNat ((k + 1) * ((d.length + skip) / 2 ^ o)) - Int.ofNat skip⟩ : Arr2 Int)) x = some (.inr (x.1, x.2.1, x.2.2)) := by
          unfold rice_Best_L3
          simp only [hsub, Option.bind_some, h4, hch]
          rw [if_pos (by simpa using hneg)]
        rw [hL]
        have hall : leastN m ((d.length + skip) / 2 ^ o) skip d (2 ^ o) = none := by
          rw [if_pos hneg] at hstep
          have := hnone (k + 1) (2 ^ o - (k + 1)) hstep
          rw [show k + 1 + (2 ^ o - (k + 1)) = 2 ^ o by omega] at this
          exact this
        rw [hall]
        rfl
      · have hbp : 0 ≤ (bestP m (partXs d ((d.length + skip) / 2 ^ o) skip k)).1 ∧ (bestP m (partXs d ((d.length + skip) / 2 ^ o) skip k)).1 ≤ 137438953472 := by
          rcases bestP_is (m := m) (xs := partXs d ((d.length + skip) / 2 ^ o) skip k) with e | e
          · rw [e] at hneg; exact absurd (by decide) hneg
          · have := isCost_bound hm (by omega) e
            omega
        have hL : rice_Best_L3 d a4 (Int.ofNat k, (⟨max 0 (Int.ofNat (k * ((d.length + skip) / 2 ^ o)) - Int.ofNat skip), Int.ofNat ((k + 1) * ((d.length + skip) / 2 ^ o)) - Int.ofNat skip⟩ : Arr2 Int)) x = some (.inl (x.1 + 4 + m + (bestP m (partXs d ((d.length + skip) / 2 ^ o) skip k)).1, x.2.1 ++ [(bestP m (partXs d ((d.length + skip) / 2 ^ o) skip k)).2.1], x.2.2 ++ [(bestP m (partXs d ((d.length + skip) / 2 ^ o) skip k)).2.2])) := by
          unfold rice_Best_L3 rice_Best_K6
          simp only [hsub, Option.bind_some, h4, hch]
          rw [if_neg (by simpa using hneg), app_ok (by simp only [List.length_singleton]; omega), app_ok (by simp only [List.length_singleton]; omega)]
          simp only [Option.bind_some]
          rw [W_id (x := (bestP m (partXs d ((d.length + skip) / 2 ^ o) skip k)).1 + 4) (by omega) (by omega), W_id (x := (bestP m (partXs d ((d.length + skip) / 2 ^ o) skip k)).1 + 4 + (m : Int)) (by omega) (by omega), W_id (by omega) (by omega)]
          refine congrArg (fun z => some (Sum.inl (z, _))) ?_
          omega
        rw [hL]
        rw [if_neg hneg] at hstep
        exact ih (k + 1) _ (by omega) hstep
  exact key (2 ^ o) 0 (6, [], []) (by omega) rfl
/-- The program's best plan. -/
theorem rbest_is {skip : Nat} {d : List Int} (hs : skip ≤ 32) (h1 : 1 ≤ d.length) (h2 : d.length + skip ≤ 65535) (hin : ∀ v, v ∈ d → InR v) : rice_Best 4 (skip : Int) d = some (⟨(methods d skip 2).2.1, (methods d skip 2).2.2.1, (methods d skip 2).2.2.2.1, (methods d skip 2).2.2.2.2⟩, 0) := by
  have e0 : W ((d.length : Int) + (skip : Int)) = ((d.length + skip : Nat) : Int) := by rw [W_id (by omega) (by omega)]; omega
  have e5 : W (4 + 1) = 5 := by decide
  have hmain : rice_Best_K1 4 (skip : Int) d () = some (⟨(methods d skip 2).2.1, (methods d skip 2).2.2.1, (methods d skip 2).2.2.2.1, (methods d skip 2).2.2.2.2⟩, 0) := by
    unfold rice_Best_K1
    refine Exists.elim (iter_for (step := rice_Best_L1 4 (skip : Int) d) 2 (fun i a => a = enc6 (methods d skip i) i) (fun r => r = (⟨(methods d skip 2).2.1, (methods d skip 2).2.2.1, (methods d skip 2).2.2.2.1, (methods d skip 2).2.2.2.2⟩, 0)) (by omega) (fun i a hi ha => ?_) (fun a ha => ?_) (a0 := (-1, 0, 0, 0, [], [])) rfl) (fun r hr => by rw [hr.1, hr.2])
    · left
      unfold rice_Best_L1
      have ha1 : a.2.1 = (i : Int) := by rw [ha]; rfl
      rw [ha1, if_pos (by rw [decide_eq_true_eq]; omega)]
      refine Exists.elim (iter_for (step := rice_Best_L2 4 (skip : Int) d a) 5 (fun j b => b = enc6 (orders d skip i (methods d skip i) j) j) (fun r => r = .inl (enc6 (methods d skip (i + 1)) (i + 1))) (by omega) (fun j b hj hb => ?_) (fun b hb => ?_) (a0 := (a.1, 0, a.2.2.1, a.2.2.2.1, a.2.2.2.2.1, a.2.2.2.2.2)) (by rw [ha]; rfl)) (fun r hr => ⟨_, by rw [hr.1, hr.2], rfl⟩)
      · left
        unfold rice_Best_L2
        have hb1 : b.2.1 = (j : Int) := by rw [hb]; rfl
        have hstep : orders d skip i (methods d skip i) (j + 1) = planStep d skip (orders d skip i (methods d skip i) j) i j := rfl
        rw [hb1, e5, if_pos (by rw [decide_eq_true_eq]; omega), e0, ha1]
        obtain ⟨c, k0, k0'⟩ := head_spec (i : Int) (j : Int) ((d.length + skip : Nat) : Int) (skip : Int)
        rw [headOk_iff (by omega) (by omega) hs h1 h2] at k0'
        rw [k0]
        simp only [Option.bind_some]
        have hkeep : enc6 (orders d skip i (methods d skip i) j) (j + 1) = (b.1, W ((j : Int) + 1), b.2.2.1, b.2.2.2.1, b.2.2.2.2.1, b.2.2.2.2.2) := by rw [hb, W_succ (by omega)]; rfl
        by_cases hc : c = 0
        · rw [if_neg (by simpa using hc)]
          obtain ⟨hdv, hmo⟩ := k0'.1 hc
          simp only [lett, rice_parts, Option.bind_some]
          unfold partsF
          rw [if_pos ⟨by omega, by omega, by omega, by omega, by omega, by omega⟩]
          simp only [Option.bind_some, Int.toNat_natCast]
          rw [best_parts (m := i) (a4 := a) (a6 := b) (by omega) (by omega) (by omega) hdv hmo hin ha1]
          rw [hstep]
          unfold planStep
          rw [if_pos ⟨hdv, hmo⟩]
          cases hL : leastN i ((d.length + skip) / 2 ^ j) skip d (2 ^ j) with
          | none =>
            refine ⟨_, rfl, ?_⟩
            simp only
            rw [hkeep, hb1]
          | some x =>
            simp only
            unfold rice_Best_K7 rice_Best_K5 rice_Best_K4
            rw [ite_or]
            have hb0 : b.1 = (orders d skip i (methods d skip i) j).1 := by rw [hb]; rfl
            by_cases hcnd : (orders d skip i (methods d skip i) j).1 < 0 ∨ x.1 < (orders d skip i (methods d skip i) j).1
            · rw [if_pos (by rw [Bool.or_eq_true, decide_eq_true_eq, decide_eq_true_eq, hb0]; exact hcnd), if_pos hcnd]
              refine ⟨_, rfl, ?_⟩
              rw [hb1, ha1, W_succ (by omega)]
              rfl
            · rw [if_neg (by rw [Bool.or_eq_true, decide_eq_true_eq, decide_eq_true_eq, hb0]; exact hcnd), if_neg hcnd, hkeep, hb1]
              exact ⟨_, rfl, rfl⟩
        · rw [if_pos (by simpa using hc)]
          unfold rice_Best_K4
          refine ⟨_, rfl, ?_⟩
          rw [hstep]
          unfold planStep
          rw [if_neg (fun h => hc (k0'.2 h)), hkeep, hb1]
      · unfold rice_Best_L2 rice_Best_K3
        have hb1 : b.2.1 = ((5 : Nat) : Int) := by rw [hb]; rfl
        rw [hb1, e5, if_neg (by decide)]
        refine ⟨_, rfl, ?_⟩
        rw [ha1, W_succ (by omega), hb]
        rfl
    · unfold rice_Best_L1 rice_Best_K2
      have ha1 : a.2.1 = ((2 : Nat) : Int) := by rw [ha]; rfl
      rw [ha1, if_neg (by decide)]
      refine ⟨_, rfl, ?_⟩
      rw [ha]
      rfl
  unfold rice_Best
  rw [if_neg (by decide), e0]
  obtain ⟨c0, h0, h0'⟩ := head_spec 0 0 ((d.length + skip : Nat) : Int) (skip : Int)
  have hok : HeadOk 0 0 ((d.length + skip : Nat) : Int) (skip : Int) := ⟨by omega, by omega, by omega, by omega, by omega, by omega, by omega, by omega, by simp [Nat.mod_one], by simp; omega⟩
  rw [h0, h0'.2 hok]
  simp only [Option.bind_some]
  rw [if_neg (by decide)]
  refine Exists.elim (iter_for (step := rice_Best_L4 4 (skip : Int) d) d.length (fun i a => a = (i : Int)) (fun r => r = (⟨(methods d skip 2).2.1, (methods d skip 2).2.2.1, (methods d skip 2).2.2.2.1, (methods d skip 2).2.2.2.2⟩, 0)) (by omega) (fun i a hi ha => ?_) (fun a ha => ?_) (a0 := 0) rfl) (fun r hr => by rw [hr.1, hr.2])
  · subst ha
    left
    unfold rice_Best_L4
    have hv := hin _ (List.getElem_mem hi)
    rw [if_pos (by simpa using hi), idx_nat hi]
    simp only [Option.bind_some]
    rw [fold_spec (by have := hv.1; omega) (by have := hv.2; omega)]
    have e1 : decide (-2147483648 < d[i]) = true := decide_eq_true hv.1
    have e2 : decide (d[i] < 2147483648) = true := decide_eq_true hv.2
    simp only [Option.bind_some, e1, e2]
    rw [if_neg (by decide)]
    exact ⟨_, rfl, W_succ (by omega)⟩
  · subst ha
    unfold rice_Best_L4
    rw [if_neg (by simp), hmain]
    exact ⟨_, rfl, rfl⟩
/-- Where a residual is too great there is no plan. -/
theorem leastN_in {m s skip : Nat} {d : List Int} {k : Nat} {a : Int × List Int × List Int} (h : leastN m s skip d k = some a) : ∀ v, v ∈ d.take (k * s - skip) → InR v := by
  rw [← parts_upto]
  induction k generalizing a with
  | zero => intro v hv; simp at hv
  | succ k ih =>
    unfold leastN at h
    obtain ⟨b, h1, h2⟩ := Option.bind_eq_some_iff.1 h
    rw [List.range_succ, List.flatMap_append]
    intro v hv
    rcases List.mem_append.1 hv with hv | hv
    · exact ih h1 v hv
    · rw [List.flatMap_cons, List.flatMap_nil, List.append_nil] at hv
      have hv : v ∈ partXs d s skip k := hv
      split at h2
      · cases h2
      · rename_i hneg
        rcases bestP_is (m := m) (xs := partXs d s skip k) with e | e
        · rw [e] at hneg; exact absurd (by decide) hneg
        · obtain ⟨e1, e2, e3, e4⟩ := e
          rw [e2] at e4
          unfold costP at e4
          by_cases h0 : 0 ≤ (bestP m (partXs d s skip k)).2.1
          · rw [if_pos h0] at e4
            split at e4
            · rename_i hok
              exact (hok v hv).1
            · exact absurd e4 (by decide)
          · rw [if_neg h0] at e4
            split at e4
            · rename_i hall
              exact hall.1 v hv
            · exact absurd e4 (by decide)
theorem methods_out {skip : Nat} {d : List Int} (hout : ¬ ∀ v, v ∈ d → InR v) : methods d skip 2 = (-1, 0, 0, [], []) := by
  have hst : ∀ a m o, planStep d skip a m o = a := by
    intro a m o
    unfold planStep
    split
    · rename_i h
      cases hL : leastN m ((d.length + skip) / 2 ^ o) skip d (2 ^ o) with
      | none => rfl
      | some b =>
        exfalso
        apply hout
        have := leastN_in hL
        have hb : 2 ^ o * ((d.length + skip) / 2 ^ o) = d.length + skip := by have := Nat.div_add_mod (d.length + skip) (2 ^ o); omega
        rw [hb, Nat.add_sub_cancel, List.take_length] at this
        exact this
    · rfl
  show orders d skip 1 (orders d skip 0 (-1, 0, 0, [], []) 5) 5 = _
  have ho : ∀ m a n, orders d skip m a n = a := by
    intro m a n
    induction n with
    | zero => rfl
    | succ n ih => show planStep d skip (orders d skip m a n) m n = a; rw [hst, ih]
  rw [ho, ho]
end Go.Vg

namespace Go.Vg

theorem rcheck_conv {p : rice_Plan} {m : Nat} {b s : Int} (hm : m ≤ 1) (hM : p.Method = (m : Int)) (hh : HeadOk p.Method p.Order b s) (h1 : p.Params.length = 2 ^ p.Order.toNat) (h2 : p.Bits.length = 2 ^ p.Order.toNat)
    (hp : ∀ i : Nat, i < p.Params.length → ∃ par n, idx p.Params (i : Int) = some par ∧ idx p.Bits (i : Int) = some n ∧ ParOk m par n) : rice_Check p b s = some 0 := by
  unfold rice_Check
  obtain ⟨c0, h0, h0'⟩ := head_spec p.Method p.Order b s
  rw [h0, h0'.2 hh]
  simp only [Option.bind_some]
  obtain ⟨o, ho⟩ := Int.eq_ofNat_of_zero_le hh.o1
  have ho2 := hh.o2
  have hpl : (2 : Nat) ^ o ≤ 2 ^ 15 := pow_le (by omega)
  have hg : decide (p.Order ≥ 0) = true := by rw [ho]; simp
  rw [ho, Int.toNat_natCast] at h1 h2
  rw [if_neg (by decide), need_ok hg, need_ok hg, ho, pow_shl (by omega)]
  unfold rice_Check_K1
  rw [if_neg (by rw [h1]; simp), if_neg (by rw [h2]; simp)]
  refine Exists.elim (iter_for (step := rice_Check_L1 p) p.Params.length (fun i a => a = (i : Int)) (fun r => r = 0) (by omega) (fun i a hi ha => ?_) (fun a ha => ?_) (a0 := 0) rfl) (fun r hr => by rw [hr.1, hr.2])
  · subst ha
    left
    obtain ⟨par, n, g1, g2, g3⟩ := hp i hi
    unfold rice_Check_L1 rice_Check_K3
    rw [if_pos (by simpa using hi), g1, g2, hM, escape_spec hm]
    simp only [Option.bind_some]
    rcases g3 with ⟨rfl, n0, n31⟩ | ⟨p0, p1, rfl⟩
    · rw [if_pos (by rfl), if_pos (by simpa using n0), if_pos (by simpa using n31)]
      exact ⟨_, rfl, W_succ (by omega)⟩
    · rw [if_neg (by rw [beq_iff_eq]; omega), if_pos (by simpa using p0), if_pos (by simpa using p1), if_pos (by rfl)]
      exact ⟨_, rfl, W_succ (by omega)⟩
  · subst ha
    unfold rice_Check_L1 rice_Check_K2
    rw [if_neg (by simp)]
    exact ⟨_, rfl, rfl⟩
/-- A part's answer is right, and costs so. -/
theorem cost_part {m : Nat} {xs : List Int} {a : Int × Int × Int} (hm : m ≤ 1) (hl : xs.length < 2 ^ 20) (h : isCost m xs a) : ParOk m a.2.1 a.2.2 ∧ PartOk m a.2.1 a.2.2 xs ∧ (∀ v, v ∈ xs → OneOk a.2.1 a.2.2 v) ∧ ((partBits m a.2.1 a.2.2 xs).length : Int) = 4 + m + a.1 := by
  have hE := escN_le hm
  obtain ⟨h1, h2, h3, h4⟩ := h
  rw [h2] at h4
  rcases h1 with e | ⟨p0, p1⟩
  · have hc : (∀ v, v ∈ xs → InR v) ∧ mostW xs ≤ 31 := by
      rw [e] at h4
      unfold costP at h4
      rw [if_neg (by decide)] at h4
      split at h4
      · assumption
      · exact absurd h4 (by decide)
    have ec : costP xs a.2.1 = (5 + (mostW xs : Int) * xs.length, (mostW xs : Int)) := by
      rw [e]
      unfold costP
      rw [if_neg (by decide), if_pos hc]
    rw [ec] at h2 h3
    have hn : a.2.2 = (mostW xs : Int) := h3
    have hone : ∀ v, v ∈ xs → OneOk a.2.1 a.2.2 v := fun v hv => by
      have hw := wid_is (hc.1 v hv)
      have := mostW_ge xs v hv
      exact ⟨(hc.1 v hv).1, (hc.1 v hv).2, fun _ => ⟨_, hw.1, by rw [hn]; omega⟩, fun h => by omega⟩
    have hpk : PartOk m a.2.1 a.2.2 xs := .inl ⟨e, by omega, by omega, fun v hv => by
      have hw := wid_is (hc.1 v hv)
      have := mostW_ge xs v hv
      exact (hw.2.2 a.2.2.toNat (by omega)).2 (by omega)⟩
    refine ⟨.inl ⟨e, by omega, by omega⟩, hpk, hone, ?_⟩
    rw [partBits_sum hpk, if_pos e, h2]
    have hs : sumL a.2.1 a.2.2 xs = (mostW xs : Int) * xs.length := by
      rw [e, hn]
      unfold sumL
      have : ∀ l : List Int, (l.map (oneLen (-1) (mostW xs : Int))).sum = (mostW xs : Int) * l.length := by
        intro l
        induction l with
        | nil => simp
        | cons x l ih =>
          rw [List.map_cons, List.sum_cons, ih, List.length_cons]
          unfold oneLen
          rw [if_pos rfl]
          push_cast
          rw [Int.mul_add]
          omega
      exact this xs
    rw [hs]
    omega
  · obtain ⟨k, hk⟩ := Int.eq_ofNat_of_zero_le p0
    have hok : okC k xs := by
      rw [hk] at h4
      unfold costP at h4
      rw [if_pos (by omega), Int.toNat_natCast] at h4
      simp only at h4
      split at h4
      · assumption
      · exact absurd h4 (by decide)
    have ec : costP xs a.2.1 = (lenC k xs, 0) := by
      rw [hk]
      unfold costP
      rw [if_pos (by omega), Int.toNat_natCast, if_pos hok]
    rw [ec] at h2 h3
    have hn : a.2.2 = 0 := h3
    have hpk : PartOk m a.2.1 a.2.2 xs := .inr ⟨p0, p1, hn, fun v hv => by
      have := hok v hv
      rw [hk, Int.toNat_natCast]
      exact ⟨this.1.1, this.1.2, this.2⟩⟩
    refine ⟨.inr ⟨p0, p1, hn⟩, hpk, ?_, ?_⟩
    · rw [hk, hn]; exact okC_one.1 hok
    · rw [partBits_sum hpk, if_neg (by omega), h2, hk, hn, lenC_sum]
      show 4 + (m : Int) + 0 + sumL (k : Int) 0 xs = 4 + (m : Int) + sumL (k : Int) 0 xs
      omega
theorem leastN_get {m s skip : Nat} {d : List Int} {k : Nat} {a : Int × List Int × List Int} (h : leastN m s skip d k = some a) : a.2.1.length = k ∧ a.2.2.length = k ∧ ∀ i, i < k → a.2.1[i]? = some (bestP m (partXs d s skip i)).2.1 ∧ a.2.2[i]? = some (bestP m (partXs d s skip i)).2.2 ∧ isCost m (partXs d s skip i) (bestP m (partXs d s skip i)) := by
  induction k generalizing a with
  | zero => cases h; exact ⟨rfl, rfl, fun i hi => by omega⟩
  | succ k ih =>
    unfold leastN at h
    obtain ⟨b, h1, h2⟩ := Option.bind_eq_some_iff.1 h
    obtain ⟨l1, l2, hg⟩ := ih h1
    split at h2
    · cases h2
    · rename_i hneg
      cases h2
      refine ⟨by simp; omega, by simp; omega, fun i hi => ?_⟩
      rcases Nat.lt_or_ge i k with h5 | h5
      · obtain ⟨g1, g2, g3⟩ := hg i h5
        exact ⟨by rw [List.getElem?_append_left (by omega)]; exact g1, by rw [List.getElem?_append_left (by omega)]; exact g2, g3⟩
      · obtain rfl : i = k := by omega
        refine ⟨by rw [List.getElem?_append_right (by omega), l1]; simp, by rw [List.getElem?_append_right (by omega), l2]; simp, ?_⟩
        rcases bestP_is (m := m) (xs := partXs d s skip i) with e | e
        · rw [e] at hneg; exact absurd (by decide) hneg
        · exact e
/-- The least plan is right, and its size. -/
theorem least_size {m o skip : Nat} {d : List Int} {b : Int × List Int × List Int} (hm : m ≤ 1) (hs : skip ≤ 32) (ho : o ≤ 4) (h1 : 1 ≤ d.length) (h2 : d.length + skip ≤ 65535) (hdv : (d.length + skip) % 2 ^ o = 0) (hmo : skip < (d.length + skip) / 2 ^ o) (hL : leastN m ((d.length + skip) / 2 ^ o) skip d (2 ^ o) = some b) :
    rice_Size ⟨(m : Int), (o : Int), b.2.1, b.2.2⟩ (skip : Int) d = some (b.1, 0) := by
  obtain ⟨l1, l2, hg⟩ := leastN_get hL
  have hpl : (2 : Nat) ^ o ≤ 2 ^ 4 := pow_le ho
  have hxl : ∀ i : Nat, (partXs d ((d.length + skip) / 2 ^ o) skip i).length < 2 ^ 20 := fun i => by have := partXs_len d ((d.length + skip) / 2 ^ o) skip i; omega
  have hidx : ∀ i : Nat, i < 2 ^ o → idx b.2.1 (i : Int) = some (bestP m (partXs d ((d.length + skip) / 2 ^ o) skip i)).2.1 ∧ idx b.2.2 (i : Int) = some (bestP m (partXs d ((d.length + skip) / 2 ^ o) skip i)).2.2 := fun i hi => ⟨idx_ok (hg i hi).1, idx_ok (hg i hi).2.1⟩
  have hh : HeadOk (m : Int) (o : Int) ((d.length + skip : Nat) : Int) (skip : Int) := (headOk_iff hm (by omega) hs h1 h2).2 ⟨hdv, hmo⟩
  have hpar : ∀ i : Nat, i < b.2.1.length → ∃ par n, idx b.2.1 (i : Int) = some par ∧ idx b.2.2 (i : Int) = some n ∧ ParOk m par n := fun i hi => by
    have := hidx i (by omega)
    exact ⟨_, _, this.1, this.2, (cost_part hm (hxl i) (hg i (by omega)).2.2).1⟩
  have hchk : rice_Check ⟨(m : Int), (o : Int), b.2.1, b.2.2⟩ ((d.length + skip : Nat) : Int) (skip : Int) = some 0 :=
    rcheck_conv (p := ⟨(m : Int), (o : Int), b.2.1, b.2.2⟩) hm rfl hh (by show b.2.1.length = 2 ^ (o : Int).toNat; rw [Int.toNat_natCast]; exact l1) (by show b.2.2.length = 2 ^ (o : Int).toNat; rw [Int.toNat_natCast]; exact l2) hpar
  have hplan : PlanOk ⟨(m : Int), (o : Int), b.2.1, b.2.2⟩ ((d.length + skip : Nat) : Int) (skip : Int) :=
    ⟨hh, by show b.2.1.length = 2 ^ (o : Int).toNat; rw [Int.toNat_natCast]; exact l1, by show b.2.2.length = 2 ^ (o : Int).toNat; rw [Int.toNat_natCast]; exact l2, by show ∀ i : Nat, i < b.2.1.length → ∃ par n, idx b.2.1 (i : Int) = some par ∧ idx b.2.2 (i : Int) = some n ∧ ParOk (m : Int).toNat par n; rw [Int.toNat_natCast]; exact hpar⟩
  rw [size_unfold hs (by omega) hplan hchk, parts_e ⟨(m : Int), (o : Int), b.2.1, b.2.2⟩ d skip]
  have hq : ∀ q, q ∈ planParts ⟨(m : Int), (o : Int), b.2.1, b.2.2⟩ d skip → idx b.2.1 q.e.1 = some q.par ∧ idx b.2.2 q.e.1 = some q.n ∧ sub d q.e.2.a0 q.e.2.a1 = some q.xs ∧ q.xs.length < 2 ^ 20 ∧ PartOk m q.par q.n q.xs ∧ ∀ v, v ∈ q.xs → OneOk q.par q.n v := by
    intro q hq
    unfold planParts at hq
    obtain ⟨i, hi, rfl⟩ := List.mem_map.1 hq
    rw [List.mem_range] at hi
    simp only [Int.toNat_natCast] at hi ⊢
    obtain ⟨g1, g2⟩ := hidx i hi
    rw [getD_eq g1, getD_eq g2]
    have hcp := cost_part hm (hxl i) (hg i hi).2.2
    exact ⟨g1, g2, (part_sub (d := d) rfl hdv hmo hi).1, hxl i, hcp.2.1, hcp.2.2.1⟩
  -- how many bits all parts have
  have hlen : ∀ k a, k ≤ 2 ^ o → leastN m ((d.length + skip) / 2 ^ o) skip d k = some a → a.1 = 6 + ((((List.range k).map fun i => (⟨(Int.ofNat i, ⟨max 0 (Int.ofNat (i * ((d.length + skip) / 2 ^ o)) - Int.ofNat skip), Int.ofNat ((i + 1) * ((d.length + skip) / 2 ^ o)) - Int.ofNat skip⟩), b.2.1.getD i 0, b.2.2.getD i 0, partXs d ((d.length + skip) / 2 ^ o) skip i⟩ : Part)).flatMap (Part.bits m)).length : Int) := by
    intro k
    induction k with
    | zero => intro a _ h; cases h; rfl
    | succ k ih =>
      intro a hk h
      unfold leastN at h
      obtain ⟨c, c1, c2⟩ := Option.bind_eq_some_iff.1 h
      have := ih c (by omega) c1
      split at c2
      · cases c2
      · cases c2
        obtain ⟨g1, g2⟩ := hidx k (by omega)
        have hcp := (cost_part hm (hxl k) (hg k (by omega)).2.2).2.2.2
        rw [List.range_succ, List.map_append, List.flatMap_append, List.length_append]
        simp only [List.map_cons, List.map_nil, List.flatMap_cons, List.flatMap_nil, List.append_nil]
        rw [getD_eq g1, getD_eq g2]
        show c.1 + 4 + (m : Int) + (bestP m (partXs d ((d.length + skip) / 2 ^ o) skip k)).1 = _
        have e : ((Part.bits m ⟨(Int.ofNat k, ⟨max 0 (Int.ofNat (k * ((d.length + skip) / 2 ^ o)) - Int.ofNat skip), Int.ofNat ((k + 1) * ((d.length + skip) / 2 ^ o)) - Int.ofNat skip⟩), (bestP m (partXs d ((d.length + skip) / 2 ^ o) skip k)).2.1, (bestP m (partXs d ((d.length + skip) / 2 ^ o) skip k)).2.2, partXs d ((d.length + skip) / 2 ^ o) skip k⟩).length : Int) = 4 + m + (bestP m (partXs d ((d.length + skip) / 2 ^ o) skip k)).1 := hcp
        rw [this]
        omega
  have hb := hlen (2 ^ o) b (Nat.le_refl _) hL
  have hpp : planParts ⟨(m : Int), (o : Int), b.2.1, b.2.2⟩ d skip = (List.range (2 ^ o)).map fun i => (⟨(Int.ofNat i, ⟨max 0 (Int.ofNat (i * ((d.length + skip) / 2 ^ o)) - Int.ofNat skip), Int.ofNat ((i + 1) * ((d.length + skip) / 2 ^ o)) - Int.ofNat skip⟩), b.2.1.getD i 0, b.2.2.getD i 0, partXs d ((d.length + skip) / 2 ^ o) skip i⟩ : Part) := by
    unfold planParts
    simp only [Int.toNat_natCast]
  obtain ⟨_, b2, _, _⟩ := leastN_bound hm (by omega) hL
  have hkb : ((2 ^ o : Nat) : Int) * 137438953482 ≤ 16 * 137438953482 := Int.mul_le_mul_of_nonneg_right (by omega) (by decide)
  rw [← hpp] at hb
  have := size_fold (y0 := ⟨(m : Int), (o : Int), b.2.1, b.2.2⟩) (y2 := d) hm rfl (planParts ⟨(m : Int), (o : Int), b.2.1, b.2.2⟩ d skip) hq 6 (by omega)
  have e6 : ((6 : Nat) : Int) = 6 := rfl
  rw [e6] at this
  rw [this]
  refine congrArg (fun z => some (z, (0 : Int))) ?_
  omega
/-- No plan, or one of the least. -/
def isPlan (d : List Int) (skip : Nat) (a : Int × Int × Int × List Int × List Int) : Prop :=
  a = (-1, 0, 0, [], []) ∨ ∃ (m o : Nat) (b : Int × List Int × List Int), m ≤ 1 ∧ o ≤ 4 ∧ (d.length + skip) % 2 ^ o = 0 ∧ skip < (d.length + skip) / 2 ^ o ∧ leastN m ((d.length + skip) / 2 ^ o) skip d (2 ^ o) = some b ∧ a = (b.1, (m : Int), (o : Int), b.2.1, b.2.2)
theorem methods_is {skip : Nat} {d : List Int} : isPlan d skip (methods d skip 2) := by
  have hst : ∀ a m o, m ≤ 1 → o ≤ 4 → isPlan d skip a → isPlan d skip (planStep d skip a m o) := by
    intro a m o hm ho ha
    unfold planStep
    split
    · rename_i h
      cases hL : leastN m ((d.length + skip) / 2 ^ o) skip d (2 ^ o) with
      | none => exact ha
      | some b =>
        simp only
        split
        · exact .inr ⟨m, o, b, hm, ho, h.1, h.2, hL, rfl⟩
        · exact ha
    · exact ha
  have hor : ∀ a m n, m ≤ 1 → n ≤ 5 → isPlan d skip a → isPlan d skip (orders d skip m a n) := by
    intro a m n hm hn ha
    induction n with
    | zero => exact ha
    | succ n ih => exact hst _ m n hm (by omega) (ih (by omega))
  exact hor _ 1 5 (by omega) (by omega) (hor _ 0 5 (by omega) (by omega) (.inl rfl))
end Go.Vg

namespace Go.Vg

theorem pair_dv {n : Nat} {x : Int} (h : Dv n x) : x = x / 2 ^ n * 2 ^ n := dv_iff.1 h
/-- subframe.Best, up to what all samples are. -/
theorem best_pre {depth : Int} {l : List Int} (q1 : 4 ≤ depth) (q2 : depth ≤ 33) (q3 : 1 ≤ l.length) (q4 : l.length ≤ 65535) (hfit : FitsP depth.toNat l) : ∃ (w : Nat) (l' : List Int), w < depth.toNat ∧ w ≤ 32 ∧ (∀ x, x ∈ l → Dv w x) ∧ ((∀ x, x ∈ l → x = 0) → w = 0) ∧ (∀ x, x ∈ l → x ≠ 0 → ∃ y, y ∈ l ∧ ¬ Dv (w + 1) y) ∧ l' = l.map (· / 2 ^ w) ∧ MayP l' ∧
    subframe_Best depth l = (subframe_same l').bind fun r5 => if r5 = true then some ((⟨0, 0, (w : Int), ⟨0, 0, []⟩, ⟨0, 0, [], []⟩⟩ : subframe_Plan), 0) else (predict_Best l').bind fun r11 => subframe_Best_K1 depth (w : Int) (l', true) r11 := by
  unfold subframe_Best
  obtain ⟨n, hn⟩ := Int.eq_ofNat_of_zero_le (show 0 ≤ depth by omega)
  have hnn : depth.toNat = n := by omega
  rw [hnn] at hfit
  obtain ⟨b, a4, a4'⟩ := fits_spec (n := n) (l := l) (by omega) (by omega) (by omega)
  have hp32 : (2 : Nat) ^ (n - 1) ≤ 2 ^ 32 := pow_le (by omega)
  have hpc := pow_cast (n - 1)
  have hpp := pow_posI (n - 1)
  obtain ⟨w, b1, b2, b3, b4, b5⟩ := wasted_spec (l := l) (by omega) (fun x hx => by have := hfit x hx; omega)
  have hwn : w < n := by
    by_cases hz : ∀ x, x ∈ l → x = 0
    · have := b4 hz; omega
    · obtain ⟨x, hx, hx0⟩ : ∃ x, x ∈ l ∧ x ≠ 0 := Classical.byContradiction fun hc => hz fun x hx => Classical.byContradiction fun h => hc ⟨x, hx, h⟩
      have hdv := b3 x hx
      have hf := hfit x hx
      rcases Nat.lt_or_ge w n with h | h
      · exact h
      · exfalso
        unfold Dv at hdv
        have hle : (2 : Int) ^ n ≤ 2 ^ w := by
          have := pow_le h
          have e1 := pow_cast n
          have e2 := pow_cast w
          omega
        have e : (2 : Int) ^ n = 2 ^ (n - 1) * 2 := by rw [← Int.pow_succ]; congr 1; omega
        have hdvd : (2 : Int) ^ w ∣ x := Int.dvd_of_emod_eq_zero hdv
        obtain ⟨y, rfl⟩ := hdvd
        have hy : y ≠ 0 := fun h => hx0 (by rw [h, Int.mul_zero])
        have hpw := pow_posI w
        rcases Int.lt_or_gt_of_ne hy with h1 | h1
        · have := Int.mul_le_mul_of_nonneg_left (show y ≤ -1 by omega) (Int.le_of_lt hpw)
          omega
        · have := Int.mul_le_mul_of_nonneg_left (show 1 ≤ y by omega) (Int.le_of_lt hpw)
          omega
  have hback : ∀ x, x ∈ l → x = x / 2 ^ w * 2 ^ w := fun x hx => pair_dv (b3 x hx)
  obtain ⟨l', b, a3, a3', a3''⟩ := less_spec (n := w) (l := l) (by omega) (by omega)
  have hb := a3'' hback
  obtain ⟨hless, _⟩ := a3' hb
  have hmay : MayP l' := by
    intro x hx
    rw [hless] at hx
    obtain ⟨y, hy, rfl⟩ := List.mem_map.1 hx
    have hf := hfit y hy
    have hpw := pow_posI w
    have h1 : (1 : Int) ≤ 2 ^ w := by omega
    show -4294967296 ≤ y / 2 ^ w ∧ y / 2 ^ w < 4294967296
    constructor
    · refine Int.le_ediv_of_mul_le hpw ?_
      have := Int.mul_le_mul_of_nonneg_left h1 (show (0 : Int) ≤ 4294967296 by decide)
      omega
    · refine Int.ediv_lt_of_lt_mul hpw ?_
      have := Int.mul_le_mul_of_nonneg_left h1 (show (0 : Int) ≤ 4294967296 by decide)
      omega
  refine ⟨w, l', by omega, by omega, b3, b4, b5, hless, hmay, ?_⟩
  rw [sizes_conv ⟨q1, q2, by omega, by omega⟩]
  simp only [Option.bind_some]
  rw [if_neg (by decide), hn, a4, a4'.2 hfit]
  simp only [Option.bind_some]
  rw [if_neg (by decide), b1]
  simp only [Option.bind_some]
  rw [a3, hb]
  rfl
theorem best_args {depth : Int} {l : List Int} (hl : l.length ≤ 65535) (h : depth < 4 ∨ depth > 33 ∨ l.length = 0) : subframe_Best depth l = some (⟨0, 0, 0, ⟨0, 0, []⟩, ⟨0, 0, [], []⟩⟩, 1) := by
  unfold subframe_Best subframe_sizes
  rw [ite_or, ite_or, ite_or, if_pos (by simp only [Bool.or_eq_true, decide_eq_true_eq]; omega)]
  rfl
theorem best_unfit {depth : Int} {l : List Int} (q1 : 4 ≤ depth) (q2 : depth ≤ 33) (q3 : 1 ≤ l.length) (q4 : l.length ≤ 65535) (hfit : ¬ FitsP depth.toNat l) : subframe_Best depth l = some (⟨0, 0, 0, ⟨0, 0, []⟩, ⟨0, 0, [], []⟩⟩, 10) := by
  unfold subframe_Best
  obtain ⟨n, hn⟩ := Int.eq_ofNat_of_zero_le (show 0 ≤ depth by omega)
  have hnn : depth.toNat = n := by omega
  rw [hnn] at hfit
  obtain ⟨b, a4, a4'⟩ := fits_spec (n := n) (l := l) (by omega) (by omega) (by omega)
  have hb : b = false := by
    cases b with
    | false => rfl
    | true => exact absurd (a4'.1 rfl) hfit
  rw [sizes_conv ⟨q1, q2, by omega, by omega⟩]
  simp only [Option.bind_some]
  rw [if_neg (by decide), hn, a4, hb]
  rfl
theorem zero_size {skip : Nat} {d : List Int} (hs : skip ≤ 32) (h1 : 1 ≤ d.length) (h2 : d.length + skip ≤ 65535) : rice_Size ⟨0, 0, [], []⟩ (skip : Int) d = some (0, 1) := by
  have e0 : W ((d.length : Int) + (skip : Int)) = ((d.length + skip : Nat) : Int) := by rw [W_id (by omega) (by omega)]; omega
  unfold rice_Size rice_Check
  rw [e0]
  obtain ⟨c0, h0, h0'⟩ := head_spec 0 0 ((d.length + skip : Nat) : Int) (skip : Int)
  have hok : HeadOk 0 0 ((d.length + skip : Nat) : Int) (skip : Int) := ⟨by omega, by omega, by omega, by omega, by omega, by omega, by omega, by omega, by simp [Nat.mod_one], by simp; omega⟩
  simp only [h0, h0'.2 hok, Option.bind_some]
  rfl
/-- What Best answers where samples are not all alike. -/
theorem best_K1 {depth : Int} {w o : Nat} {l' : List Int} (q1 : 4 ≤ depth) (q2 : depth ≤ 33) (hw : w < depth.toNat) (ho : o ≤ 4) (hol : o < l'.length) (hl : l'.length ≤ 65535) (hmay : MayP l') :
    ∃ p : subframe_Plan, subframe_Best_K1 depth (w : Int) (l', true) (o : Int) = some (p, 0) ∧ p.Wasted = (w : Int) ∧ p.Linear = ⟨0, 0, []⟩ ∧
      ((methods (residL (fixedC o) 0 l') o 2).1 ≥ 0 ∧ W ((methods (residL (fixedC o) 0 l') o 2).1 + W ((o : Int) * W (depth - (w : Int)))) < W ((l'.length : Int) * W (depth - (w : Int))) → p.Kind = 2 ∧ p.Order = (o : Int) ∧ p.Rice = ⟨(methods (residL (fixedC o) 0 l') o 2).2.1, (methods (residL (fixedC o) 0 l') o 2).2.2.1, (methods (residL (fixedC o) 0 l') o 2).2.2.2.1, (methods (residL (fixedC o) 0 l') o 2).2.2.2.2⟩) ∧
      (¬ ((methods (residL (fixedC o) 0 l') o 2).1 ≥ 0 ∧ W ((methods (residL (fixedC o) 0 l') o 2).1 + W ((o : Int) * W (depth - (w : Int)))) < W ((l'.length : Int) * W (depth - (w : Int)))) → p.Kind = 1 ∧ p.Order = 0 ∧ p.Rice = ⟨0, 0, [], []⟩) := by
  obtain ⟨f1, f2, _⟩ := fixed_is ho
  have hdl : (residL (fixedC o) 0 l').length = l'.length - o := by rw [residL_len, f2]
  have hres := resid_fixed ho (Nat.le_of_lt hol) (by omega) hmay
  unfold subframe_Best_K1
  have hhow : subframe_how (⟨2, (o : Int), (w : Int), ⟨0, 0, []⟩, ⟨0, 0, [], []⟩⟩ : subframe_Plan) = some ⟨4, 0, fixedC o⟩ := by
    unfold subframe_how
    rw [if_pos (by rfl), f1]
    rfl
  rw [hhow]
  simp only [Option.bind_some]
  rw [hres]
  simp only [Option.bind_some]
  generalize hd : residL (fixedC o) 0 l' = d at *
  by_cases hin : ∀ v, v ∈ d → InR v
  · rw [rbest_is (by omega) (by omega) (by omega) hin]
    simp only [Option.bind_some]
    rw [if_neg (by decide)]
    rcases methods_is (skip := o) (d := d) with hM | ⟨m, oo, b, g1, g2, g3, g4, g5, hM⟩
    · rw [hM, zero_size (by omega) (by omega) (by omega)]
      simp only [Option.bind_some]
      rw [if_neg (by rw [ite_and]; simp)]
      exact ⟨_, rfl, rfl, rfl, fun h => absurd h.1 (by decide), fun _ => ⟨rfl, rfl, rfl⟩⟩
    · obtain ⟨b1, _, _, _⟩ := leastN_bound g1 (by omega) g5
      rw [hM, least_size g1 (by omega) g2 (by omega) (by omega) g3 g4 g5]
      simp only [Option.bind_some]
      rw [ite_and]
      by_cases hc : W (b.1 + W ((o : Int) * W (depth - (w : Int)))) < W ((l'.length : Int) * W (depth - (w : Int)))
      · rw [if_pos (by rw [Bool.and_eq_true, decide_eq_true_eq]; exact ⟨rfl, hc⟩)]
        exact ⟨_, rfl, rfl, rfl, fun _ => ⟨rfl, rfl, rfl⟩, fun h => absurd ⟨by omega, hc⟩ h⟩
      · rw [if_neg (by rw [Bool.and_eq_true, decide_eq_true_eq]; exact fun h => hc h.2)]
        exact ⟨_, rfl, rfl, rfl, fun h => absurd h.2 hc, fun _ => ⟨rfl, rfl, rfl⟩⟩
  · rw [methods_out hin]
    have hR : ∃ q, rice_Best 4 (o : Int) d = some (q, 10) := by
      unfold rice_Best
      have e0 : W ((d.length : Int) + (o : Int)) = ((d.length + o : Nat) : Int) := by rw [W_id (by omega) (by omega)]; omega
      obtain ⟨c0, h0, h0'⟩ := head_spec 0 0 ((d.length + o : Nat) : Int) (o : Int)
      have hok : HeadOk 0 0 ((d.length + o : Nat) : Int) (o : Int) := ⟨by omega, by omega, by omega, by omega, by omega, by omega, by omega, by omega, by simp [Nat.mod_one], by simp; omega⟩
      rw [if_neg (by decide), e0, h0, h0'.2 hok]
      simp only [Option.bind_some]
      rw [if_neg (by decide)]
      refine Exists.elim (iter_for (step := rice_Best_L4 4 (o : Int) d) d.length (fun i a => a = (i : Int) ∧ ∀ v, v ∈ d.take i → InR v) (fun r => r.2 = 10) (by omega) (fun i a hi ha => ?_) (fun a ha => ?_) (a0 := 0) ⟨rfl, fun v hv => by simp at hv⟩) (fun r hr => ⟨r.1, by rw [hr.1, ← hr.2]⟩)
      · obtain ⟨rfl, hall⟩ := ha
        unfold rice_Best_L4
        obtain ⟨f, hf⟩ := fold_flag d[i]
        rw [if_pos (by simpa using hi), idx_nat hi]
        simp only [Option.bind_some, hf]
        by_cases hv : InR d[i]
        · have e1 : decide (-2147483648 < d[i]) = true := decide_eq_true hv.1
          have e2 : decide (d[i] < 2147483648) = true := decide_eq_true hv.2
          rw [e1, e2, if_neg (by decide)]
          refine .inl ⟨_, rfl, W_succ (by omega), fun v hx => ?_⟩
          rw [List.take_succ_eq_append_getElem hi] at hx
          rcases List.mem_append.1 hx with hx | hx
          · exact hall v hx
          · rw [List.mem_singleton] at hx; subst hx; exact hv
        · rw [if_pos (by
            rw [Bool.not_eq_true', Bool.and_eq_false_iff]
            by_cases h1 : -2147483648 < d[i]
            · exact .inr (decide_eq_false fun h2 => hv ⟨h1, h2⟩)
            · exact .inl (decide_eq_false h1))]
          exact .inr ⟨_, rfl, rfl⟩
      · obtain ⟨rfl, hall⟩ := ha
        rw [List.take_length] at hall
        exact absurd hall hin
    obtain ⟨q, hq⟩ := hR
    rw [hq]
    simp only [Option.bind_some]
    rw [if_pos (by decide)]
    exact ⟨_, rfl, rfl, rfl, fun h => absurd h.1 (by decide), fun _ => ⟨rfl, rfl, rfl⟩⟩

/-- The reference's loops over all plans. -/
theorem rplans_is {y0 r9 : Int} {r3 : subframe_Plan × Int} {r10 : List Int × Bool} {o : Nat} {d : List Int} {R : Bool} (ho : o ≤ 4) (h1 : 1 ≤ d.length) (h2 : d.length + o ≤ 65535) (hl : r10.1.length = d.length + o)
    (hR : jetsamlaw07_SubframeBest_K3 y0 r3 r9 r10 (o : Int) ((methods d o 2).1, (methods d o 2).2.1, (methods d o 2).2.2.1, (methods d o 2).2.2.2.1, (methods d o 2).2.2.2.2) = some R) :
    iter (jetsamlaw07_SubframeBest_L1 y0 r3 r9 r10 (o : Int) (d, 0)) ((-1), 0, 0, 0, [], []) = some R := by
  refine Exists.elim (iter_for (step := jetsamlaw07_SubframeBest_L1 y0 r3 r9 r10 (o : Int) (d, 0)) 2 (fun i a => a = enc6 (methods d o i) i) (fun r => r = R) (by omega) (fun i a hi ha => ?_) (fun a ha => ?_) (a0 := ((-1), 0, 0, 0, [], [])) rfl) (fun r hr => by rw [hr.1, hr.2])
  · left
    unfold jetsamlaw07_SubframeBest_L1
    have ha1 : a.2.1 = (i : Int) := by rw [ha]; rfl
    rw [ha1, if_pos (by rw [decide_eq_true_eq]; omega)]
    refine Exists.elim (iter_for (step := jetsamlaw07_SubframeBest_L2 r10 (o : Int) (d, 0) a) 5 (fun j b => b = enc6 (orders d o i (methods d o i) j) j) (fun r => r = .inl (enc6 (methods d o (i + 1)) (i + 1))) (by omega) (fun j b hj hb => ?_) (fun b hb => ?_) (a0 := (a.1, 0, a.2.2.1, a.2.2.2.1, a.2.2.2.2.1, a.2.2.2.2.2)) (by rw [ha]; rfl)) (fun r hr => ⟨_, by rw [hr.1, hr.2], rfl⟩)
    · left
      unfold jetsamlaw07_SubframeBest_L2 jetsamlaw07_SubframeBest_K6
      have hb1 : b.2.1 = (j : Int) := by rw [hb]; rfl
      have hstep : orders d o i (methods d o i) (j + 1) = planStep d o (orders d o i (methods d o i) j) i j := rfl
      have hkeep : enc6 (orders d o i (methods d o i) j) (j + 1) = (b.1, W ((j : Int) + 1), b.2.2.1, b.2.2.2.1, b.2.2.2.2.1, b.2.2.2.2.2) := by rw [hb, W_succ (by omega)]; rfl
      rw [hb1, if_pos (by rw [decide_eq_true_eq]; omega), ha1, hl]
      obtain ⟨c, k0, k0'⟩ := rhead_spec (i : Int) (j : Int) ((d.length + o : Nat) : Int) (o : Int)
      rw [headOk_iff (by omega) (by omega) (by omega) h1 h2] at k0'
      rw [k0]
      simp only [Option.bind_some]
      by_cases hc : c = 0
      · rw [if_neg (by simpa using hc)]
        obtain ⟨hdv, hmo⟩ := k0'.1 hc
        obtain ⟨n, q, g1, g2, g3⟩ := rleast_is (m := i) (o := j) (skip := o) (d := d) (by omega) (by omega) (by omega) (by omega) hdv hmo
        rw [g1]
        simp only [Option.bind_some, ite_or, ite_and]
        rw [hstep]
        cases hL : leastN i ((d.length + o) / 2 ^ j) o d (2 ^ j) with
        | none =>
          have hps : planStep d o (orders d o i (methods d o i) j) i j = orders d o i (methods d o i) j := by
            unfold planStep
            rw [if_pos ⟨hdv, hmo⟩, hL]
          rw [g3 hL, if_neg (by simp), hps, hkeep]
          exact ⟨_, rfl, rfl⟩
        | some x =>
          have hps : planStep d o (orders d o i (methods d o i) j) i j = if (orders d o i (methods d o i) j).1 < 0 ∨ x.1 < (orders d o i (methods d o i) j).1 then (x.1, (i : Int), (j : Int), x.2.1, x.2.2) else orders d o i (methods d o i) j := by
            unfold planStep
            rw [if_pos ⟨hdv, hmo⟩, hL]
          obtain ⟨rfl, rfl⟩ := g2 x hL
          obtain ⟨x6, _, _, _⟩ := leastN_bound (by omega) (by omega) hL
          have hb0 : b.1 = (orders d o i (methods d o i) j).1 := by rw [hb]; rfl
          rw [hps]
          by_cases hcnd : (orders d o i (methods d o i) j).1 < 0 ∨ x.1 < (orders d o i (methods d o i) j).1
          · rw [if_pos (by rw [Bool.and_eq_true, Bool.or_eq_true, decide_eq_true_eq, decide_eq_true_eq, decide_eq_true_eq, hb0]; exact ⟨by omega, hcnd⟩), if_pos hcnd]
            refine ⟨_, rfl, ?_⟩
            rw [W_succ (by omega)]
            rfl
          · rw [if_neg (by rw [Bool.and_eq_true, Bool.or_eq_true, decide_eq_true_eq, decide_eq_true_eq, decide_eq_true_eq, hb0]; exact fun h => hcnd h.2), if_neg hcnd, hkeep]
            exact ⟨_, rfl, rfl⟩
      · rw [if_pos (by simpa using hc)]
        have hps : planStep d o (orders d o i (methods d o i) j) i j = orders d o i (methods d o i) j := by
          unfold planStep
          rw [if_neg (fun h => hc (k0'.2 h))]
        rw [hstep, hps, hkeep]
        exact ⟨_, rfl, rfl⟩
    · unfold jetsamlaw07_SubframeBest_L2 jetsamlaw07_SubframeBest_K5
      have hb1 : b.2.1 = ((5 : Nat) : Int) := by rw [hb]; rfl
      rw [hb1, if_neg (by decide)]
      refine ⟨_, rfl, ?_⟩
      rw [ha1, W_succ (by omega), hb]
      rfl
  · unfold jetsamlaw07_SubframeBest_L1
    have ha1 : a.2.1 = ((2 : Nat) : Int) := by rw [ha]; rfl
    rw [ha1, if_neg (by decide), ha]
    have : (enc6 (methods d o 2) 2) = ((methods d o 2).1, ((2 : Nat) : Int), (methods d o 2).2.1, (methods d o 2).2.2.1, (methods d o 2).2.2.2.1, (methods d o 2).2.2.2.2) := rfl
    rw [this]
    simp only [hR]
    exact ⟨_, rfl, rfl⟩

theorem rresid_fixed {i : Nat} {l : List Int} (hi : i ≤ 4) (hc : i ≤ l.length) (hl : l.length < 2 ^ 40) (hm : MayP l) : jetsamref06_Residual ⟨4, 0, fixedC i⟩ l = some (residL (fixedC i) 0 l, 0) := by
  obtain ⟨f1, f2, _⟩ := fixed_is hi
  have hL : LinOk ⟨4, 0, fixedC i⟩ := fixed_lin hi f1
  have hcl : (⟨4, 0, fixedC i⟩ : predict_Linear).Coefs.length ≤ l.length := by
    have e : (⟨4, 0, fixedC i⟩ : predict_Linear).Coefs = fixedC i := rfl
    rw [e, f2]; exact hc
  exact rresid_spec (q := ⟨4, 0, fixedC i⟩) (p := ⟨4, 0, fixedC i⟩) rfl rfl rfl hl hL hcl hm
theorem law_K1 (depth : Int) (l : List Int) (hl : l.length ≤ 40) : jetsamlaw07_SubframeBest_K1 depth l = some true := by
  unfold jetsamlaw07_SubframeBest_K1
  rw [ite_or, ite_or]
  have hz : jetsamlaw07_Same ⟨0, 0, 0, ⟨0, 0, []⟩, ⟨0, 0, [], []⟩⟩ ⟨0, 0, 0, ⟨0, 0, []⟩, ⟨0, 0, [], []⟩⟩ = some true := by
    have : ∀ q : subframe_Plan, q.Linear.Coefs.length < 2 ^ 40 → q.Rice.Params.length < 2 ^ 40 → q.Rice.Bits.length < 2 ^ 40 → jetsamlaw07_Same q q = some true := same_refl
    exact this ⟨0, 0, 0, ⟨0, 0, []⟩, ⟨0, 0, [], []⟩⟩ (by show ([] : List Int).length < _; simp) (by show ([] : List Int).length < _; simp) (by show ([] : List Int).length < _; simp)
  by_cases h0 : (depth < 4 ∨ depth > 33) ∨ l.length = 0
  · rw [best_args (by omega) (by omega)]
    simp only [Option.bind_some]
    rw [if_pos (by rw [Bool.or_eq_true, Bool.or_eq_true, decide_eq_true_eq, decide_eq_true_eq, beq_iff_eq]; omega), if_pos (by rfl), hz]
    simp only [Option.bind_some, awake_ok, if_true]
  have hd1 : 4 ≤ depth := by omega
  have hd2 : depth ≤ 33 := by omega
  have hl1 : 1 ≤ l.length := by omega
  have hcond : ¬ ((decide (depth < 4) || decide (depth > 33)) || ((l.length : Int) == 0)) = true := by
    rw [Bool.or_eq_true, Bool.or_eq_true, decide_eq_true_eq, decide_eq_true_eq, beq_iff_eq]; omega
  obtain ⟨n, hn⟩ := Int.eq_ofNat_of_zero_le (show 0 ≤ depth by omega)
  have hnn : depth.toNat = n := by omega
  obtain ⟨b, rf1, rf2⟩ := rfits_spec (n := n) (l := l) (by omega) (by omega) (by omega)
  rw [← hn] at rf1
  rcases (Classical.em (FitsP depth.toNat l)).symm with hfit | hfit
  · have hb : b = false := by
      cases b with
      | false => rfl
      | true => exact absurd (by rw [hnn]; exact rf2.1 rfl) hfit
    rw [best_unfit hd1 hd2 hl1 (by omega) hfit]
    simp only [Option.bind_some]
    rw [if_neg hcond, rf1, hb]
    simp only [Option.bind_some]
    rw [if_pos (by decide), if_pos (by rfl), hz]
    simp only [Option.bind_some, awake_ok, if_true]
  have hb : b = true := rf2.2 (by rw [← hnn]; exact hfit)
  obtain ⟨w, l', w1, w2, w3, w4, w5, hless, hmay, hbest⟩ := best_pre hd1 hd2 hl1 (by omega) hfit
  have hll : l'.length = l.length := by rw [hless, List.length_map]
  have hbd : ∀ x, x ∈ l → -1099511627776 ≤ x ∧ x ≤ 1099511627776 := fun x hx => by
    have := hfit x hx
    have e : (2 : Nat) ^ (depth.toNat - 1) ≤ 2 ^ 32 := pow_le (by omega)
    have ec := pow_cast (depth.toNat - 1)
    omega
  have hrw := rwasted_spec (l := l) (w := w) (by omega) hbd w2 w3 w4 w5
  obtain ⟨m, b2, g1, g2, g3⟩ := rless_spec (n := w) (l := l) (by omega) (by omega) hbd
  have hb2 := g3.2 w3
  have hm : m = l' := by rw [g2 hb2, hless]
  rw [hm, hb2] at g1
  obtain ⟨b6, a6, a6'⟩ := same_spec (l := l') (by omega) (by omega)
  -- the reference's look whether all are alike
  have hL3 : ∀ (r3 : subframe_Plan × Int) (R : Bool), jetsamlaw07_SubframeBest_K2 depth r3 (w : Int) (l', true) b6 = some R → iter (jetsamlaw07_SubframeBest_L3 depth r3 (w : Int) (l', true)) (true, 0) = some R := by
    intro r3 R hR
    refine Exists.elim (iter_for (step := jetsamlaw07_SubframeBest_L3 depth r3 (w : Int) (l', true)) l'.length (fun i a => a.2 = (i : Int) ∧ (a.1 = true ↔ ∀ x, x ∈ l'.take i → x = l'[0])) (fun r => r = R) (by omega) (fun i a hi ha => ?_) (fun a ha => ?_) (a0 := (true, 0)) ⟨rfl, fun _ x hx => by simp at hx, fun _ => rfl⟩) (fun r hr => by rw [hr.1, hr.2])
    · obtain ⟨h1, h2⟩ := ha
      left
      unfold jetsamlaw07_SubframeBest_L3
      rw [h1, if_pos (by simpa using hi)]
      cases hc : a.1 with
      | true =>
        rw [if_pos rfl]
        have e0 : idx l' 0 = some l'[0] := idx_nat (i := 0) (by omega)
        simp only [idx_nat hi, e0, Option.bind_some]
        refine ⟨_, rfl, W_succ (by omega), ?_⟩
        show (l'[i] == l'[0]) = true ↔ _
        rw [beq_iff_eq, List.take_succ_eq_append_getElem hi]
        constructor
        · intro h x hx
          rcases List.mem_append.1 hx with hx | hx
          · exact h2.1 hc x hx
          · rw [List.mem_singleton] at hx; subst hx; exact h
        · intro h
          exact h _ (List.mem_append_right _ (List.mem_singleton.2 rfl))
      | false =>
        rw [if_neg (by decide)]
        refine ⟨_, rfl, W_succ (by omega), fun h => (nomatch h), fun h => ?_⟩
        have := h2.2 fun x hx => h x (by rw [List.take_succ_eq_append_getElem hi]; exact List.mem_append_left _ hx)
        rw [hc] at this
        cases this
    · obtain ⟨h1, h2⟩ := ha
      unfold jetsamlaw07_SubframeBest_L3
      rw [List.take_length] at h2
      have hab : a.1 = b6 := by
        rw [Bool.eq_iff_iff, h2, a6']
      rw [h1, if_neg (by simp), hab]
      simp only [hR]
      exact ⟨_, rfl, rfl⟩
  rw [hbest, a6]
  simp only [Option.bind_some]
  cases b6 with
  | true =>
    simp only [if_true, Option.bind_some]
    rw [if_neg hcond, rf1, hb]
    simp only [Option.bind_some]
    rw [if_neg (by decide), hrw]
    simp only [Option.bind_some]
    rw [g1]
    simp only [Option.bind_some]
    apply hL3
    unfold jetsamlaw07_SubframeBest_K2
    rw [if_pos rfl, if_pos (by rfl), same_refl ⟨0, 0, (w : Int), ⟨0, 0, []⟩, ⟨0, 0, [], []⟩⟩ (by show ([] : List Int).length < _; simp) (by show ([] : List Int).length < _; simp) (by show ([] : List Int).length < _; simp)]
    simp only [Option.bind_some, awake_ok, if_true]
  | false =>
    have hl2 : 2 ≤ l'.length := by
      rcases Nat.lt_or_ge l'.length 2 with h | h
      · exfalso
        have : (false : Bool) = true := a6'.2 fun x hx => by
          obtain ⟨i, hi, rfl⟩ := List.getElem_of_mem hx
          have : i = 0 := by omega
          subst this
          rfl
        cases this
      · exact h
    have hpb := pbest_is (l := l') (by omega) (by omega) hmay
    have hrb := rbest6_is (l := l') (by omega) hmay
    obtain ⟨o, o1, o2, o3⟩ := pbest_some (l := l') (by omega) (by omega)
    rw [hpb] at o1
    have eo := Option.some.inj o1
    rw [eo] at hpb hrb
    obtain ⟨f1, f2, f3⟩ := fixed_is o2
    rw [hpb]
    simp only [Bool.false_eq_true, if_false, Option.bind_some]
    obtain ⟨p, p1, p2, p3, p4, p5⟩ := best_K1 (depth := depth) (w := w) (o := o) (l' := l') hd1 hd2 w1 o2 o3 (by omega) hmay
    rw [p1]
    simp only [Option.bind_some]
    rw [if_neg hcond, rf1, hb]
    simp only [Option.bind_some]
    rw [if_neg (by decide), hrw]
    simp only [Option.bind_some]
    rw [g1]
    simp only [Option.bind_some]
    apply hL3
    unfold jetsamlaw07_SubframeBest_K2
    rw [if_neg (by decide), hrb]
    simp only [Option.bind_some]
    rw [f3]
    simp only [Option.bind_some]
    rw [rresid_fixed o2 (Nat.le_of_lt o3) (by omega) hmay]
    simp only [Option.bind_some]
    have hdl : (residL (fixedC o) 0 l').length = l'.length - o := by rw [residL_len, f2]
    refine rplans_is (by omega) (by omega) (by omega) (by show l'.length = _; omega) ?_
    have hM : (methods (residL (fixedC o) 0 l') o 2).2.2.2.1.length < 2 ^ 40 ∧ (methods (residL (fixedC o) 0 l') o 2).2.2.2.2.length < 2 ^ 40 := by
      rcases methods_is (skip := o) (d := residL (fixedC o) 0 l') with h | ⟨m', o', b', _, x2, _, _, x5, h⟩
      · rw [h]; exact ⟨by simp, by simp⟩
      · rw [h]
        obtain ⟨y1, y2, _⟩ := leastN_get x5
        have : (2 : Nat) ^ o' ≤ 2 ^ 4 := pow_le x2
        exact ⟨by show b'.2.1.length < _; omega, by show b'.2.2.length < _; omega⟩
    generalize methods (residL (fixedC o) 0 l') o 2 = M at *
    have hK4 : ∀ (k : Int × Int × Int × Int × List Int × List Int), p.Kind = k.1 → p.Order = k.2.1 → p.Rice = ⟨k.2.2.1, k.2.2.2.1, k.2.2.2.2.1, k.2.2.2.2.2⟩ → k.2.2.2.2.1.length < 2 ^ 40 → k.2.2.2.2.2.length < 2 ^ 40 → jetsamlaw07_SubframeBest_K4 (p, 0) (w : Int) k = some true := by
      intro k k1 k2 k3 k4 k5
      unfold jetsamlaw07_SubframeBest_K4 jetsamlaw07_Plain jetsamlaw06_Plain jetsamlaw05_Plain
      simp only [Option.bind_some, k1, k2, k3, p2, p3, beq_self_eq_true, if_true, List.length_nil]
      rw [if_pos (by rfl), ints_same _ k4]
      simp only [Option.bind_some, if_true]
      rw [ints_same _ k5]
      simp only [Option.bind_some, if_true, awake_ok]
    unfold jetsamlaw07_SubframeBest_K3
    rw [ite_and]
    by_cases hcnd : M.1 ≥ 0 ∧ W (M.1 + W ((o : Int) * W (depth - (w : Int)))) < W ((l'.length : Int) * W (depth - (w : Int)))
    · obtain ⟨k1, k2, k3⟩ := p4 hcnd
      rw [if_pos (by rw [Bool.and_eq_true, decide_eq_true_eq, decide_eq_true_eq]; exact hcnd)]
      exact hK4 _ k1 k2 k3 hM.1 hM.2
    · obtain ⟨k1, k2, k3⟩ := p5 hcnd
      rw [if_neg (by rw [Bool.and_eq_true, decide_eq_true_eq, decide_eq_true_eq]; exact hcnd)]
      exact hK4 _ k1 k2 k3 (by simp) (by simp)
theorem law_SubframeBest (depth times : Int) (l : List Int) : jetsamlaw07_SubframeBest depth times l = some true := by
  unfold jetsamlaw07_SubframeBest
  rw [ite_or, ite_or]
  split
  · rw [awake_ok]; rfl
  · rename_i hc
    simp only [Bool.or_eq_true, decide_eq_true_eq] at hc
    refine Exists.elim (iter_for (step := jetsamlaw07_SubframeBest_L4 depth times l) l.length (fun i a => a.1 = (i : Int) ∧ a.2.length = i) (fun r => r = true) (by omega) (fun i a hi ha => ?_) (fun a ha => ?_) (a0 := (0, [])) ⟨rfl, rfl⟩) (fun r hr => by rw [hr.1, hr.2])
    · obtain ⟨h1, h2⟩ := ha
      unfold jetsamlaw07_SubframeBest_L4
      rw [h1, if_pos (by simpa using hi), idx_nat hi]
      simp only [Option.bind_some, awake_ok]
      split
      · exact .inr ⟨_, rfl, rfl⟩
      · split
        · exact .inr ⟨_, rfl, rfl⟩
        · rw [need_ok (by simp; omega), app_ok (by simp; omega)]
          exact .inl ⟨_, rfl, W_succ (by omega), by simp; omega⟩
    · obtain ⟨h1, h2⟩ := ha
      unfold jetsamlaw07_SubframeBest_L4
      rw [h1, if_neg (by simp), law_K1 depth a.2 (by omega)]
      exact ⟨_, rfl, rfl⟩
end Go.Vg
