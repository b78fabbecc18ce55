/- The plain laws: the reference; reading, inverted -/
import Derived.Test.YtpjbfealfmjddaaGreatDoorM3
set_option maxRecDepth 4000
set_option linter.all false
set_option linter.unusedVariables false
set_option linter.unusedSimpArgs false
namespace Go.Vg

theorem rfits_spec {n : Nat} {l : List Int} (h1 : 1 ≤ n) (hn : n ≤ 48) (hl : l.length < 2 ^ 40) : ∃ b, jetsamref07_Fits (n : Int) l = some b ∧ (b = true ↔ FitsP n l) := by
  unfold jetsamref07_Fits
  have e1 : W ((n : Int) - 1) = ((n - 1 : Nat) : Int) := by rw [W_id (by omega) (by omega)]; omega
  have hp : (2 : Nat) ^ (n - 1) ≤ 2 ^ 47 := pow_le (by omega)
  have hc := pow_cast (n - 1)
  have hq := pow_posI (n - 1)
  have e2 : W (0 - ((2 ^ (n - 1) : Nat) : Int)) = -(2 : Int) ^ (n - 1) := by rw [W_id (by omega) (by omega)]; omega
  refine Exists.elim (iter_for (step := jetsamref07_Fits_L1 (n : Int) l) l.length (fun i a => a = (i : Int) ∧ ∀ x, x ∈ l.take i → -(2 : Int) ^ (n - 1) ≤ x ∧ x < (2 : Int) ^ (n - 1)) (fun b => b = true ↔ FitsP n l) (by omega) (fun i a hi ha => ?_) (fun a ha => ?_) (a0 := 0) ⟨rfl, fun x hx => by simp at hx⟩) (fun r hr => ⟨r, hr⟩)
  · obtain ⟨rfl, hall⟩ := ha
    unfold jetsamref07_Fits_L1 jetsamref07_Fits_K2
    rw [if_pos (by simpa using hi), idx_nat hi, e1, pow_shl (by omega), e2]
    simp only [Option.bind_some]
    rw [need_ok (by simp), need_ok (by simp)]
    by_cases hx : l[i] < -(2 : Int) ^ (n - 1)
    · rw [if_pos (by simpa using hx), if_pos trivial]
      refine .inr ⟨_, rfl, fun h => (nomatch h), fun h => ?_⟩
      have := (h _ (List.getElem_mem hi)).1
      omega
    · rw [if_neg (by simpa using hx), hc]
      by_cases hx2 : l[i] ≥ (2 : Int) ^ (n - 1)
      · rw [if_pos (by simpa using hx2)]
        refine .inr ⟨_, rfl, fun h => (nomatch h), fun h => ?_⟩
        have := (h _ (List.getElem_mem hi)).2
        omega
      · rw [if_neg (by simpa using hx2)]
        refine .inl ⟨_, rfl, W_succ (by omega), fun x hx' => ?_⟩
        rw [List.take_succ_eq_append_getElem hi] at hx'
        rcases List.mem_append.1 hx' with hx' | hx'
        · exact hall x hx'
        · rw [List.mem_singleton] at hx'; subst hx'; omega
  · obtain ⟨rfl, hall⟩ := ha
    unfold jetsamref07_Fits_L1 jetsamref07_Fits_K1
    rw [if_neg (by simp)]
    rw [List.take_length] at hall
    exact ⟨_, rfl, fun _ => hall, fun _ => rfl⟩
theorem dv_iff {n : Nat} {x : Int} : Dv n x ↔ x = x / 2 ^ n * 2 ^ n := by
  unfold Dv
  have h2 := Int.emod_add_ediv_mul x (2 ^ n)
  omega
theorem rless_spec {n : Nat} {l : List Int} (hn : n ≤ 48) (hl : l.length < 2 ^ 40) (hb : ∀ x, x ∈ l → -1099511627776 ≤ x ∧ x ≤ 1099511627776) : ∃ m b, jetsamref07_Less (n : Int) l = some (m, b) ∧ (b = true → m = l.map (· / 2 ^ n)) ∧ (b = true ↔ ∀ x, x ∈ l → Dv n x) := by
  unfold jetsamref07_Less
  have hp := pow_posI n
  have hpc := pow_cast n
  refine Exists.elim (iter_for (step := jetsamref07_Less_L1 (n : Int) l) l.length (fun i a => a = ((i : Int), (l.take i).map (· / 2 ^ n)) ∧ ∀ x, x ∈ l.take i → Dv n x) (fun r => (r.2 = true → r.1 = l.map (· / 2 ^ n)) ∧ (r.2 = true ↔ ∀ x, x ∈ l → Dv n x)) (by omega) (fun i a hi ha => ?_) (fun a ha => ?_) (a0 := (0, [])) ⟨rfl, fun x hx => by simp at hx⟩) (fun r hr => ⟨r.1, r.2, hr⟩)
  · obtain ⟨rfl, hall⟩ := ha
    unfold jetsamref07_Less_L1
    have hne : ((((2 ^ n : Nat) : Int)) != 0) = true := by rw [bne_iff_ne]; omega
    rw [if_pos (by simpa using hi), idx_nat hi, pow_shl (by omega)]
    simp only [Option.bind_some]
    rw [need_ok (by simp), need_ok hne, need_ok (by simp), need_ok hne, hpc]
    have hx := hb _ (List.getElem_mem hi)
    by_cases hz : Dv n l[i]
    · have hd : (2 : Int) ^ n ∣ l[i] := Int.dvd_of_emod_eq_zero hz
      have e1 : l[i].tmod (2 ^ n) = 0 := Int.tmod_eq_zero_of_dvd hd
      have e2 : l[i].tdiv (2 ^ n) = l[i] / 2 ^ n := Int.tdiv_eq_ediv_of_dvd hd
      rw [e1, e2, if_neg (by decide)]
      have b1 : -1099511627776 ≤ l[i] / 2 ^ n := by
        refine Int.le_ediv_of_mul_le hp ?_
        have := Int.mul_le_mul_of_nonneg_left (show (1 : Int) ≤ 2 ^ n by omega) (show (0 : Int) ≤ 1099511627776 by decide)
        omega
      have b2 : l[i] / 2 ^ n ≤ 1099511627776 := by
        refine Int.ediv_le_of_le_mul hp ?_
        have := Int.mul_le_mul_of_nonneg_left (show (1 : Int) ≤ 2 ^ n by omega) (show (0 : Int) ≤ 1099511627776 by decide)
        omega
      rw [W_id (by omega) (by omega), app_ok (by simp; omega)]
      refine .inl ⟨_, rfl, ?_, fun x hx => ?_⟩
      · rw [W_succ (by omega), List.take_succ_eq_append_getElem hi, List.map_append]; rfl
      · rw [List.take_succ_eq_append_getElem hi] at hx
        rcases List.mem_append.1 hx with hx | hx
        · exact hall x hx
        · rw [List.mem_singleton] at hx; subst hx; exact hz
    · rw [if_pos]
      · exact .inr ⟨_, rfl, fun h => (nomatch h), fun h => (nomatch h), fun h => absurd (h _ (List.getElem_mem hi)) hz⟩
      · rw [bne_iff_ne]
        intro h
        exact hz (Int.emod_eq_zero_of_dvd (Int.dvd_of_tmod_eq_zero h))
  · obtain ⟨rfl, hall⟩ := ha
    unfold jetsamref07_Less_L1 jetsamref07_Less_K1
    rw [if_neg (by simp)]
    rw [List.take_length] at *
    exact ⟨_, rfl, fun _ => rfl, fun _ => hall, fun _ => rfl⟩
/-- What a sample is told to be, added up. -/
def accW (cs l : List Int) : Nat → Int
  | 0 => 0
  | i + 1 => W (accW cs l i + W (cs.getD i 0 * l.getD (l.length - 1 - i) 0))
theorem accW_range (cs l : List Int) (i : Nat) : -9223372036854775808 ≤ accW cs l i ∧ accW cs l i ≤ 9223372036854775807 := by
  cases i with
  | zero => exact ⟨(by decide : (-9223372036854775808 : Int) ≤ 0), (by decide : (0 : Int) ≤ 9223372036854775807)⟩
  | succ i =>
    unfold accW
    rw [show W = fun x => IntKind.i64.wrap x from rfl]
    simp only [wrap_i64']
    omega
theorem told_acc {p : predict_Linear} {l : List Int} (hl : l.length < 2 ^ 40) (hc : p.Coefs.length ≤ l.length) {s : Nat} (hs : p.Shift = (s : Int)) (hs2 : s ≤ 15) : predict_Linear_told p l = some (accW p.Coefs l p.Coefs.length / 2 ^ s) := by
  unfold predict_Linear_told
  have e1 : W ((l.length : Int) - (p.Coefs.length : Int)) = ((l.length - p.Coefs.length : Nat) : Int) := by rw [W_id (by omega) (by omega)]; omega
  rw [e1, sub_ok (by omega) (by omega)]
  simp only [Option.bind_some, predict_back, backF]
  have hdl : ((l.drop (l.length - p.Coefs.length)).take (l.length - (l.length - p.Coefs.length))).length = p.Coefs.length := by simp; omega
  have hget : ∀ i, i < p.Coefs.length → ((l.drop (l.length - p.Coefs.length)).take (l.length - (l.length - p.Coefs.length))).getD (p.Coefs.length - 1 - i) 0 = l.getD (l.length - 1 - i) 0 := by
    intro i hi
    simp only [List.getD]
    rw [List.getElem?_take, if_pos (by omega), List.getElem?_drop]
    congr 2
    omega
  generalize hL : (l.drop (l.length - p.Coefs.length)).take (l.length - (l.length - p.Coefs.length)) = L at *
  unfold backN
  obtain ⟨x, hx, h2⟩ := foldR_range (step := predict_Linear_told_L1 p) (done := predict_Linear_told_K2 p) (ret := fun b => nomatch b) L.length (fun (i : Nat) => (Int.ofNat i, L.getD (L.length - 1 - i) 0)) (fun i a => a = accW p.Coefs l i) (fun i a hi ha => by
    subst ha
    unfold predict_Linear_told_L1
    have hi' : i < p.Coefs.length := by omega
    simp only [Int.ofNat_eq_natCast, idx_nat hi', Option.bind_some]
    refine ⟨_, rfl, ?_⟩
    have e2 : p.Coefs.getD i 0 = p.Coefs[i] := by simp [List.getD, hi']
    rw [hdl, hget i hi']
    show _ = W (accW p.Coefs l i + W (p.Coefs.getD i 0 * l.getD (l.length - 1 - i) 0))
    rw [e2]) (x0 := 0) rfl
  have hK : predict_Linear_told_K2 p x = some (x / 2 ^ s) := by
    unfold predict_Linear_told_K2 predict_Linear_told_K1
    rw [need_ok (by simp [hs]), hs, shr_int _ (by omega)]
  rw [hx, hdl] at hK
  rw [← hK, ← hdl, ← hx]
  exact h2
theorem rtold_acc {q : jetsamref06_Linear} {l : List Int} (hl : l.length < 2 ^ 40) (hc2 : q.Coefs.length ≤ 32) (hc : q.Coefs.length ≤ l.length) {s : Nat} (hs : q.Shift = (s : Int)) (hs2 : s ≤ 15) : jetsamref06_Told q l = some (accW q.Coefs l q.Coefs.length / 2 ^ s) := by
  unfold jetsamref06_Told
  have hp := pow_posI s
  have hpl : (2 : Nat) ^ s ≤ 2 ^ 15 := pow_le hs2
  have hpc := pow_cast s
  have hne : ((((2 ^ s : Nat) : Int)) != 0) = true := by rw [bne_iff_ne]; omega
  have hK : ∀ j : Int, -9223372036854775808 ≤ j → j ≤ 9223372036854775807 → jetsamref06_Told_K1 q j = some (j / 2 ^ s) := by
    intro j j1 j2
    unfold jetsamref06_Told_K1 jetsamref06_Told_K2
    rw [hs, pow_shl (by omega), need_ok (by simp), need_ok hne, hpc]
    have hdm := Int.tdiv_mul_add_tmod j (2 ^ s)
    have hfl := Int.ediv_mul_add_emod j (2 ^ s)
    have hm0 := Int.emod_nonneg j (Int.ne_of_gt hp)
    have hm1 := Int.emod_lt_of_pos j hp
    generalize hP : (2 : Int) ^ s = P at *
    have hP1 : 1 ≤ P := by omega
    have key : (0 ≤ j ∧ j.tdiv P = j / P) ∨ (j < 0 ∧ (j.tdiv P = j / P ∧ j % P = 0 ∨ j.tdiv P = j / P + 1 ∧ j % P ≠ 0)) := by
      rcases Int.lt_or_le j 0 with h | h
      · right
        refine ⟨h, ?_⟩
        by_cases hz : j % P = 0
        · left
          exact ⟨Int.tdiv_eq_ediv_of_dvd (Int.dvd_of_emod_eq_zero hz), hz⟩
        · right
          refine ⟨?_, hz⟩
          have := Int.tdiv_eq_ediv (a := j) (b := P)
          rw [if_neg (by
            intro hh
            rcases hh with hh | hh
            · omega
            · exact hz (Int.emod_eq_zero_of_dvd hh))] at this
          rw [this, Int.sign_eq_one_of_pos hp]
      · exact .inl ⟨h, Int.tdiv_eq_ediv_of_nonneg h⟩
    have hq1 : -9223372036854775808 ≤ j / P := by
      refine Int.le_ediv_of_mul_le hp ?_
      have := Int.mul_le_mul_of_nonneg_left hP1 (show (0 : Int) ≤ 9223372036854775808 by decide)
      omega
    have hq2 : j / P ≤ 9223372036854775807 := by
      refine Int.ediv_le_of_le_mul hp ?_
      have := Int.mul_le_mul_of_nonneg_left hP1 (show (0 : Int) ≤ 9223372036854775807 by decide)
      omega
    rcases key with ⟨h0, e⟩ | ⟨h0, ⟨e, hz⟩ | ⟨e, hz⟩⟩
    · rw [e, W_id (x := j / P) hq1 hq2, W_id (x := j / P * P) (by omega) (by omega), if_neg (by rw [decide_eq_true_eq]; omega)]
    · rw [e, W_id (x := j / P) hq1 hq2, W_id (x := j / P * P) (by omega) (by omega), if_neg (by rw [decide_eq_true_eq]; omega)]
    · have hneg : j / P + 1 ≤ 0 := by
        have : j / P < 0 := Int.ediv_neg_of_neg_of_pos h0 hp
        omega
      have e3 : (j / P + 1) * P = j / P * P + P := by rw [Int.add_mul, Int.one_mul]
      have hle : (j / P + 1) * P ≤ 0 := Int.mul_nonpos_of_nonpos_of_nonneg hneg (by omega)
      rw [e, W_id (x := j / P + 1) (by omega) (by omega), W_id (x := (j / P + 1) * P) (by omega) (by omega), if_pos (by rw [decide_eq_true_eq]; omega), W_id (by omega) (by omega)]
      congr 1
      omega
  refine Exists.elim (iter_for (step := jetsamref06_Told_L1 q l) q.Coefs.length (fun i a => a = (accW q.Coefs l i, (i : Int))) (fun r => r = accW q.Coefs l q.Coefs.length / 2 ^ s) (by omega) (fun i a hi ha => ?_) (fun a ha => ?_) (a0 := (0, 0)) rfl) (fun r hr => by rw [hr.1, hr.2])
  · subst ha
    left
    unfold jetsamref06_Told_L1
    have e : W ((W ((l.length : Int) - 1)) - (i : Int)) = ((l.length - 1 - i : Nat) : Int) := by rw [W_id (x := (l.length : Int) - 1) (by omega) (by omega), W_id (by omega) (by omega)]; omega
    rw [if_pos (by simpa using hi), idx_nat hi, e, idx_nat (l := l) (i := l.length - 1 - i) (by omega)]
    simp only [Option.bind_some]
    refine ⟨_, rfl, ?_⟩
    have e2 : q.Coefs.getD i 0 = q.Coefs[i] := by simp [List.getD, hi]
    have e3 : l.getD (l.length - 1 - i) 0 = l[l.length - 1 - i]'(by omega) := by simp [List.getD, show l.length - 1 - i < l.length by omega]
    rw [W_succ (by omega)]
    show _ = (W (accW q.Coefs l i + W (q.Coefs.getD i 0 * l.getD (l.length - 1 - i) 0)), _)
    rw [e2, e3]
  · subst ha
    unfold jetsamref06_Told_L1
    rw [if_neg (by simp)]
    obtain ⟨r1, r2⟩ := accW_range q.Coefs l q.Coefs.length
    simp only [hK _ r1 r2]
    exact ⟨_, rfl, rfl⟩
end Go.Vg

namespace Go.Vg

/-- What samples are more than they are told to be. -/
def residL (cs : List Int) (s : Nat) (l : List Int) : List Int := (List.range (l.length - cs.length)).map fun i => W (l.getD (cs.length + i) 0 - accW cs (l.take (cs.length + i)) cs.length / 2 ^ s)
theorem residL_len (cs : List Int) (s : Nat) (l : List Int) : (residL cs s l).length = l.length - cs.length := by simp [residL]
theorem residL_get {cs : List Int} {s : Nat} {l : List Int} {i : Nat} (h : i + cs.length < l.length) : (residL cs s l)[i]? = some (W (l.getD (cs.length + i) 0 - accW cs (l.take (cs.length + i)) cs.length / 2 ^ s)) := by
  unfold residL
  rw [List.getElem?_map, List.getElem?_range (by omega)]
  rfl
theorem getD_some {l : List Int} {i : Nat} (h : i < l.length) : l.getD i 0 = l[i] := by simp [List.getD, h]
theorem rcheck6_conv {q : jetsamref06_Linear} {p : predict_Linear} (h1 : q.Precision = p.Precision) (h2 : q.Shift = p.Shift) (h3 : q.Coefs = p.Coefs) (hp : LinOk p) : jetsamref06_Check q = some 0 := by
  have a1 := hp.len; have a2 := hp.p1; have a3 := hp.p2; have a4 := hp.s1; have a5 := hp.s2; have hf := hp.fit
  rw [← h1] at a2 a3 hf
  rw [← h2] at a4 a5
  rw [← h3] at a1 hf
  unfold jetsamref06_Check
  rw [ite_or, ite_or, ite_or, ite_or, if_neg (by simp only [Bool.or_eq_true, decide_eq_true_eq]; omega)]
  have e1 : W (q.Precision - 1) = ((q.Precision.toNat - 1 : Nat) : Int) := by rw [W_id (by omega) (by omega)]; omega
  have hpl : (2 : Nat) ^ (q.Precision.toNat - 1) ≤ 2 ^ 14 := pow_le (by omega)
  have hpc := pow_cast (q.Precision.toNat - 1)
  have hpp := pow_posI (q.Precision.toNat - 1)
  have e2 : W (0 - ((2 ^ (q.Precision.toNat - 1) : Nat) : Int)) = -(2 : Int) ^ (q.Precision.toNat - 1) := by rw [W_id (by omega) (by omega)]; omega
  refine Exists.elim (iter_for (step := jetsamref06_Check_L1 q) q.Coefs.length (fun i a => a = (i : Int)) (fun r => r = 0) (by omega) (fun i a hi ha => ?_) (fun a ha => ?_) (a0 := 0) rfl) (fun r hr => by rw [hr.1, hr.2])
  · subst ha
    left
    unfold jetsamref06_Check_L1 jetsamref06_Check_K2
    have hx := hf _ (List.getElem_mem hi)
    rw [if_pos (by simpa using hi), idx_nat hi, e1, pow_shl (by omega), e2]
    simp only [Option.bind_some]
    rw [need_ok (by simp), need_ok (by simp), if_neg (by rw [decide_eq_true_eq]; omega), hpc, if_neg (by rw [decide_eq_true_eq]; omega)]
    exact ⟨_, rfl, W_succ (by omega)⟩
  · subst ha
    unfold jetsamref06_Check_L1
    rw [if_neg (by simp)]
    exact ⟨_, rfl, rfl⟩
theorem rresid_spec {q : jetsamref06_Linear} {p : predict_Linear} {l : List Int} (h1 : q.Precision = p.Precision) (h2 : q.Shift = p.Shift) (h3 : q.Coefs = p.Coefs) (hl : l.length < 2 ^ 40) (hp : LinOk p) (hc : p.Coefs.length ≤ l.length) (hm : MayP l) : jetsamref06_Residual q l = some (residL p.Coefs p.Shift.toNat l, 0) := by
  have h32 := hp.len
  obtain ⟨s, hs⟩ := Int.eq_ofNat_of_zero_le hp.s1
  have hs2 := hp.s2
  have es : p.Shift.toNat = s := by omega
  unfold jetsamref06_Residual
  rw [rcheck6_conv h1 h2 h3 hp]
  simp only [Option.bind_some]
  rw [if_neg (by decide), h3, if_neg (by simp; omega), es]
  refine Exists.elim (iter_for (step := jetsamref06_Residual_L1 q l) l.length (fun i a => a = ((i : Int), (residL p.Coefs s l).take (i - p.Coefs.length))) (fun r => r = (residL p.Coefs s l, 0)) (by omega) (fun i a hi ha => ?_) (fun a ha => ?_) (a0 := (0, [])) (by simp)) (fun r hr => by rw [hr.1, hr.2])
  · subst ha
    left
    unfold jetsamref06_Residual_L1 jetsamref06_Residual_K2 jetsamref06_may
    have hmx := hm _ (List.getElem_mem hi)
    have hmay : (if decide (l[i] ≥ -4294967296) = true then decide (l[i] < 4294967296) else false) = true := by
      rw [ite_and, Bool.and_eq_true, decide_eq_true_eq, decide_eq_true_eq]; omega
    rw [if_pos (by simpa using hi), idx_nat hi]
    simp only [Option.bind_some, hmay]
    rw [if_neg (by decide), h3]
    by_cases hge : p.Coefs.length ≤ i
    · have hsub : sub l 0 (i : Int) = some ((l.drop 0).take (i - 0)) := sub_ok (i := 0) (by omega) (by omega)
      rw [if_pos (by rw [decide_eq_true_eq]; omega), hsub]
      simp only [Option.bind_some, List.drop_zero, Nat.sub_zero]
      rw [rtold_acc (q := q) (s := s) (by simp; omega) (by rw [h3]; exact h32) (by rw [h3]; simp; omega) (by rw [h2]; exact hs) (by omega), h3]
      simp only [Option.bind_some]
      have hlt : i - p.Coefs.length < (residL p.Coefs s l).length := by rw [residL_len]; omega
      rw [app_ok (by simp [residL_len]; omega)]
      simp only [Option.bind_some]
      refine ⟨_, rfl, ?_⟩
      rw [W_succ (by omega), show i + 1 - p.Coefs.length = (i - p.Coefs.length) + 1 by omega, List.take_succ_eq_append_getElem hlt]
      have e := residL_get (cs := p.Coefs) (s := s) (l := l) (i := i - p.Coefs.length) (by omega)
      rw [List.getElem?_eq_getElem hlt] at e
      rw [Option.some.inj e, show p.Coefs.length + (i - p.Coefs.length) = i by omega, getD_some hi]
    · rw [if_neg (by rw [decide_eq_true_eq]; omega)]
      refine ⟨_, rfl, ?_⟩
      rw [W_succ (by omega), show i + 1 - p.Coefs.length = 0 by omega, show i - p.Coefs.length = 0 by omega]
  · subst ha
    unfold jetsamref06_Residual_L1 jetsamref06_Residual_K1
    rw [if_neg (by simp)]
    refine ⟨_, rfl, ?_⟩
    rw [List.take_of_length_le (by rw [residL_len]; omega)]

end Go.Vg

namespace Go.Vg

/-- Bits as numbers. -/
def b01 (l : List Bool) : List Int := l.map fun b => if b then 1 else 0
theorem b01_length (l : List Bool) : (b01 l).length = l.length := by simp [b01]
theorem b01_append (l m : List Bool) : b01 (l ++ m) = b01 l ++ b01 m := by simp [b01]
theorem number_un {l : List Bool} (hl : l.length ≤ 48) : jetsamref01_Number (b01 l) false = some (num l : Int) := by
  unfold jetsamref01_Number
  refine Exists.elim (iter_for (step := jetsamref01_Number_L1 (b01 l) false) l.length (fun i a => a = ((num (l.take i) : Int), (i : Int))) (fun r => r = (num l : Int)) (by omega) (fun i a hi ha => ?_) (fun a ha => ?_) (a0 := (0, 0)) rfl) (fun r hr => by rw [hr.1, hr.2])
  · subst ha
    left
    unfold jetsamref01_Number_L1 jetsamref01_Number_K2
    have hi' : i < (b01 l).length := by rw [b01_length]; exact hi
    rw [if_pos (by simpa using hi'), idx_nat hi']
    simp only [Option.bind_some, ite_and, Bool.and_false]
    rw [if_neg (by decide)]
    refine ⟨_, rfl, ?_⟩
    have hlt := num_lt (l.take i)
    have hp : (2 : Nat) ^ (l.take i).length ≤ 2 ^ 47 := pow_le (by simp; omega)
    have e : (b01 l)[i] = if l[i] then 1 else 0 := by simp [b01]
    have e2 : (num (l.take (i + 1)) : Int) = 2 * num (l.take i) + if l[i] then 1 else 0 := by
      rw [List.take_succ_eq_append_getElem hi, num_append]
      cases l[i] <;> simp [num] <;> omega
    have hb : (0 : Int) ≤ (if l[i] then 1 else 0) ∧ (if l[i] then (1 : Int) else 0) ≤ 1 := by split <;> omega
    rw [W_succ (by omega), e, e2, W_id (x := 2 * (num (l.take i) : Int)) (by omega) (by omega), W_id (by omega) (by omega)]
  · subst ha
    unfold jetsamref01_Number_L1 jetsamref01_Number_K1
    rw [if_neg (by rw [b01_length]; simp), List.take_length]
    exact ⟨_, rfl, rfl⟩
/-- The number that bits are, the first one of which is the sign. -/
def numS : List Bool → Int
  | [] => 0
  | b :: l => (num l : Int) - if b then 2 ^ l.length else 0
theorem numS_snoc (l : List Bool) (b : Bool) (h : l ≠ []) : numS (l ++ [b]) = 2 * numS l + if b then 1 else 0 := by
  cases l with
  | nil => exact absurd rfl h
  | cons x l =>
    simp only [List.cons_append, numS]
    rw [num_append, List.length_append]
    simp only [List.length_singleton, Nat.pow_one, Int.pow_succ]
    cases b <;> cases x <;> simp [num] <;> omega
theorem numS_range (l : List Bool) : -(2 : Int) ^ (l.length - 1) ≤ numS l ∧ numS l < 2 ^ (l.length - 1) ∨ l = [] := by
  cases l with
  | nil => exact .inr rfl
  | cons x l =>
    left
    simp only [numS, List.length_cons, Nat.add_sub_cancel]
    have h1 := num_lt l
    have h2 := pow_cast l.length
    have h3 := pow_posI l.length
    cases x <;> simp <;> omega
theorem numS_mod (l : List Bool) : numS l % 2 ^ l.length = (num l : Int) % 2 ^ l.length := by
  cases l with
  | nil => rfl
  | cons x l =>
    simp only [numS, List.length_cons]
    have e : (num (x :: l) : Int) = num l + if x then 2 ^ l.length else 0 := by
      have : x :: l = [x] ++ l := rfl
      rw [this, num_append]
      have hc := pow_cast l.length
      cases x <;> simp [num] <;> omega
    rw [e]
    cases x with
    | false => simp
    | true =>
      simp only [if_true]
      have : (num l : Int) + 2 ^ l.length = (num l : Int) - 2 ^ l.length + 2 ^ (l.length + 1) * 1 := by
        rw [Int.pow_succ]; omega
      rw [this, Int.add_mul_emod_self_left]
theorem number_sg {l : List Bool} (hl : l.length ≤ 48) : jetsamref01_Number (b01 l) true = some (numS l) := by
  unfold jetsamref01_Number
  refine Exists.elim (iter_for (step := jetsamref01_Number_L1 (b01 l) true) l.length (fun i a => a = (numS (l.take i), (i : Int))) (fun r => r = numS l) (by omega) (fun i a hi ha => ?_) (fun a ha => ?_) (a0 := (0, 0)) rfl) (fun r hr => by rw [hr.1, hr.2])
  · subst ha
    left
    unfold jetsamref01_Number_L1 jetsamref01_Number_K2
    have hi' : i < (b01 l).length := by rw [b01_length]; exact hi
    have e : (b01 l)[i] = if l[i] then 1 else 0 := by simp [b01]
    rw [if_pos (by simpa using hi'), idx_nat hi']
    simp only [Option.bind_some, ite_and, Bool.and_true]
    by_cases h0 : i = 0
    · subst h0
      have h0' : idx (b01 l) 0 = some (b01 l)[0] := idx_nat (i := 0) hi'
      rw [if_pos (by decide), h0']
      simp only [Option.bind_some]
      refine ⟨_, rfl, ?_⟩
      rw [W_succ (by omega), e, List.take_succ_eq_append_getElem hi, List.take_zero, List.nil_append]
      generalize l[0] = bb
      cases bb <;> decide
    · rw [if_neg (by rw [beq_iff_eq]; omega)]
      refine ⟨_, rfl, ?_⟩
      have hne : l.take i ≠ [] := by
        intro h
        have := congrArg List.length h
        rw [List.length_take, Nat.min_eq_left (by omega), List.length_nil] at this
        exact h0 this
      have hp : (2 : Nat) ^ ((l.take i).length - 1) ≤ 2 ^ 47 := pow_le (by simp; omega)
      have hpc := pow_cast ((l.take i).length - 1)
      have hr : -(2 : Int) ^ ((l.take i).length - 1) ≤ numS (l.take i) ∧ numS (l.take i) < 2 ^ ((l.take i).length - 1) := by
        rcases numS_range (l.take i) with h | h
        · exact h
        · exact absurd h hne
      have hb : (0 : Int) ≤ (if l[i] then 1 else 0) ∧ (if l[i] then (1 : Int) else 0) ≤ 1 := by split <;> omega
      rw [W_succ (by omega), e, List.take_succ_eq_append_getElem hi, numS_snoc _ _ hne, W_id (x := 2 * numS (l.take i)) (by omega) (by omega), W_id (by omega) (by omega)]
  · subst ha
    unfold jetsamref01_Number_L1 jetsamref01_Number_K1
    rw [if_neg (by rw [b01_length]; simp), List.take_length]
    exact ⟨_, rfl, rfl⟩

/-- A number's bits, from any bit on. -/
theorem bitsOf_get {n v i : Nat} (h : i < n) : (bitsOf n v)[i]? = some (v / 2 ^ (n - 1 - i) % 2 == 1) := by
  induction n generalizing v i with
  | zero => omega
  | succ n ih =>
    rw [bitsOf, List.getElem?_append, bitsOf_length]
    by_cases hi : i < n
    · have e : 2 ^ (n + 1 - 1 - i) = 2 * 2 ^ (n - 1 - i) := by rw [← Nat.pow_succ']; congr 1; omega
      rw [if_pos hi, ih hi, Nat.div_div_eq_div_mul, e]
    · rw [if_neg hi]
      obtain rfl : i = n := by omega
      simp
/-- The bits that are put. -/
theorem put_loop {n : Nat} {v : Int} {step : Int × List Int → Option ((Int × List Int) ⊕ (Int × List Int))} {R : Int × List Int} (hn : n ≤ 48)
    (hs : ∀ (i : Nat) (l : List Int), l.length < 2 ^ 40 → step ((i : Int), l) = some (.inl (W ((i : Int) - 1), l ++ [arD .and .i64 (shD .shr .i64 v (i : Int)) 1])))
    (he : step (-1, b01 (bitsOf n (sgn n v))) = some (.inr R)) : iter step (W ((n : Int) - 1), []) = some R := by
  have e0 : W ((n : Int) - 1) = (n : Int) - 1 := W_id (by omega) (by omega)
  rw [e0]
  refine Exists.elim (iter_for (step := step) n (fun i a => a = ((n : Int) - 1 - i, b01 ((bitsOf n (sgn n v)).take i))) (fun r => r = R) (by omega) (fun i a hi ha => ?_) (fun a ha => ?_) (a0 := ((n : Int) - 1, [])) (by simp [b01])) (fun r hr => by rw [hr.1, hr.2])
  · subst ha
    left
    have e1 : (n : Int) - 1 - (i : Int) = ((n - 1 - i : Nat) : Int) := by omega
    rw [e1, hs _ _ (by rw [b01_length]; simp; omega)]
    refine ⟨_, rfl, ?_⟩
    have e2 : W (((n - 1 - i : Nat) : Int) - 1) = (n : Int) - 1 - ((i + 1 : Nat) : Int) := by rw [W_id (by omega) (by omega)]; omega
    have hil : i < (bitsOf n (sgn n v)).length := by rw [bitsOf_length]; exact hi
    rw [e2, List.take_succ_eq_append_getElem hil, b01_append]
    refine congrArg (fun z => ((n : Int) - 1 - ((i + 1 : Nat) : Int), b01 ((bitsOf n (sgn n v)).take i) ++ z)) ?_
    have e3 := bitsOf_get (n := n) (v := sgn n v) hi
    rw [List.getElem?_eq_getElem hil] at e3
    rw [Option.some.inj e3, shr_int _ (by omega), and_one]
    -- one bit
    have hp := pow_posI (n - 1 - i)
    have hv : v / 2 ^ (n - 1 - i) % 2 = ((sgn n v / 2 ^ (n - 1 - i) % 2 : Nat) : Int) := by
      unfold sgn
      have hpn := pow_posI n
      have e4 : (2 : Int) ^ n = 2 ^ (n - 1 - i) * (2 * 2 ^ i) := by
        rw [← Int.mul_assoc, ← Int.pow_succ, ← Int.pow_add]; congr 1; omega
      rw [Int.natCast_emod, Int.natCast_ediv, Int.toNat_of_nonneg (Int.emod_nonneg _ (Int.ne_of_gt hpn)), pow_cast, e4]
      have h1 := Int.emod_add_mul_ediv v (2 ^ (n - 1 - i) * (2 * 2 ^ i))
      generalize v % (2 ^ (n - 1 - i) * (2 * 2 ^ i)) = r at *
      generalize v / (2 ^ (n - 1 - i) * (2 * 2 ^ i)) = k at *
      have h2 : v = r + 2 ^ (n - 1 - i) * (2 * (2 ^ i * k)) := by rw [← h1]; simp only [Int.mul_assoc]
      rw [h2, Int.add_mul_ediv_left _ _ (Int.ne_of_gt hp), Int.add_mul_emod_self_left]
      rfl
    rw [hv]
    rcases Nat.mod_two_eq_zero_or_one (sgn n v / 2 ^ (n - 1 - i)) with h | h <;> rw [h] <;> rfl
  · subst ha
    have e1 : (n : Int) - 1 - (n : Int) = -1 := by omega
    rw [e1, List.take_of_length_le (by rw [bitsOf_length]; omega), he]
    exact ⟨_, rfl, rfl⟩
/-- What is put, and when. -/
theorem putS_val {n : Nat} {v : Int} (hn : n ≤ 48) : (numS (bitsOf n (sgn n v)) = v ↔ EscOk n v) := by
  have hl := bitsOf_length n (sgn n v)
  by_cases h0 : n = 0
  · subst h0
    show (0 : Int) = v ↔ _
    constructor
    · intro h; exact .inl ⟨rfl, h.symm⟩
    · rintro (⟨_, h⟩ | ⟨h, _⟩)
      · exact h.symm
      · omega
  have hne : bitsOf n (sgn n v) ≠ [] := fun h => by rw [h] at hl; simp at hl; omega
  have hr : -(2 : Int) ^ (n - 1) ≤ numS (bitsOf n (sgn n v)) ∧ numS (bitsOf n (sgn n v)) < 2 ^ (n - 1) := by
    have := numS_range (bitsOf n (sgn n v))
    rw [hl] at this
    rcases this with h | h
    · exact h
    · exact absurd h hne
  have hmod : numS (bitsOf n (sgn n v)) % 2 ^ n = v % 2 ^ n := by
    have := numS_mod (bitsOf n (sgn n v))
    rw [hl, num_bitsOf, Nat.mod_eq_of_lt (sgn_lt n v)] at this
    rw [this]
    unfold sgn
    rw [Int.toNat_of_nonneg (Int.emod_nonneg _ (Int.ne_of_gt (pow_posI n))), Int.emod_emod]
  have hpn : (2 : Int) ^ n = 2 ^ (n - 1) * 2 := by rw [← Int.pow_succ]; congr 1; omega
  have hpp := pow_posI (n - 1)
  generalize numS (bitsOf n (sgn n v)) = r at *
  constructor
  · intro h
    subst h
    exact .inr ⟨by omega, hn, hr.1, hr.2⟩
  · rintro (⟨h, _⟩ | ⟨_, _, h3, h4⟩)
    · exact absurd h h0
    · have e1 := Int.emod_add_mul_ediv r (2 ^ n)
      have e2 := Int.emod_add_mul_ediv v (2 ^ n)
      rw [hmod] at e1
      have hd : (2 : Int) ^ n * (r / 2 ^ n) - 2 ^ n * (v / 2 ^ n) = r - v := by omega
      rw [← Int.mul_sub] at hd
      generalize (2 : Int) ^ n = N at *
      generalize r / N - v / N = k at *
      have hk : k = 0 := by
        rcases Int.lt_trichotomy k 0 with h | h | h
        · have := Int.mul_le_mul_of_nonneg_left (show k ≤ -1 by omega) (show 0 ≤ N by omega)
          omega
        · exact h
        · have := Int.mul_le_mul_of_nonneg_left (show 1 ≤ k by omega) (show 0 ≤ N by omega)
          omega
      rw [hk, Int.mul_zero] at hd
      omega
theorem putU_val {n : Nat} {v : Int} (hn : n ≤ 48) : ((num (bitsOf n (sgn n v)) : Int) = v ↔ 0 ≤ v ∧ v < 2 ^ n) := by
  rw [num_bitsOf, Nat.mod_eq_of_lt (sgn_lt n v)]
  unfold sgn
  have hp := pow_posI n
  rw [Int.toNat_of_nonneg (Int.emod_nonneg _ (Int.ne_of_gt hp))]
  constructor
  · intro h
    have := Int.emod_nonneg v (Int.ne_of_gt hp)
    have := Int.emod_lt_of_pos v hp
    omega
  · rintro ⟨h1, h2⟩
    exact Int.emod_eq_of_lt h1 h2
theorem rput_S {n : Nat} {v : Int} (hn : n ≤ 48) : ∃ c l, jetsamref01_Put (n : Int) v true = some (c, l) ∧ (c = 0 ↔ EscOk n v) ∧ (c = 0 → l = b01 (escBits n v)) := by
  unfold jetsamref01_Put
  rw [if_neg (by rw [ite_or, Bool.or_eq_true, decide_eq_true_eq, decide_eq_true_eq]; omega)]
  have hN := number_sg (l := bitsOf n (sgn n v)) (by rw [bitsOf_length]; exact hn)
  have hlen : (b01 (bitsOf n (sgn n v))).length = n := by rw [b01_length, bitsOf_length]
  by_cases hv : EscOk n v
  · refine ⟨0, b01 (escBits n v), put_loop (v := v) hn (fun i l hl => ?_) ?_, ⟨fun _ => hv, fun _ => rfl⟩, fun _ => rfl⟩
    · unfold jetsamref01_Put_L1
      rw [if_pos (by simp), need_ok (by simp), app_ok (by simp; omega)]
      rfl
    · unfold jetsamref01_Put_L1 jetsamref01_Put_K1
      rw [if_neg (by simp)]
      simp only [hN, Option.bind_some]
      rw [if_neg (by rw [(putS_val hn).2 hv]; simp), app_ok (by rw [List.length_nil, hlen]; omega)]
      rfl
  · refine ⟨10, [], put_loop (v := v) hn (fun i l hl => ?_) ?_, ⟨fun h => (nomatch h), fun h => absurd h hv⟩, fun h => (nomatch h)⟩
    · unfold jetsamref01_Put_L1
      rw [if_pos (by simp), need_ok (by simp), app_ok (by simp; omega)]
      rfl
    · unfold jetsamref01_Put_L1 jetsamref01_Put_K1
      rw [if_neg (by simp)]
      simp only [hN, Option.bind_some]
      rw [if_pos (by rw [bne_iff_ne]; exact fun h => hv ((putS_val hn).1 h))]
      rfl
theorem rput2_U {n : Nat} {v : Int} {y : List Int} (hn : n ≤ 48) (h1 : 0 ≤ v) (h2 : v < 2 ^ n) (hy : y.length < 2 ^ 40) : jetsamref01_Put_x2 (n : Int) v false y = some (0, y ++ b01 (bitsOf n v.toNat)) := by
  unfold jetsamref01_Put_x2
  rw [if_neg (by rw [ite_or, Bool.or_eq_true, decide_eq_true_eq, decide_eq_true_eq]; omega)]
  have hN := number_un (l := bitsOf n (sgn n v)) (by rw [bitsOf_length]; exact hn)
  have hlen : (b01 (bitsOf n (sgn n v))).length = n := by rw [b01_length, bitsOf_length]
  have hs : sgn n v = v.toNat := by unfold sgn; rw [Int.emod_eq_of_lt h1 h2]
  refine put_loop (v := v) hn (fun i l hl => ?_) ?_
  · unfold jetsamref01_Put_x2_L1
    rw [if_pos (by simp), need_ok (by simp), app_ok (by simp; omega)]
    rfl
  · unfold jetsamref01_Put_x2_L1 jetsamref01_Put_x2_K1
    rw [if_neg (by simp)]
    simp only [hN, Option.bind_some]
    rw [if_neg (by rw [(putU_val hn).2 ⟨h1, h2⟩]; simp), app_ok (by rw [hlen]; omega), ← hs]
    rfl
theorem runary_is {n : Nat} (hn : n ≤ 65536) : jetsamref01_Unary_x2 (n : Int) = some (0, b01 (List.replicate n false ++ [true])) := by
  unfold jetsamref01_Unary_x2
  rw [if_neg (by rw [ite_or, Bool.or_eq_true, decide_eq_true_eq, decide_eq_true_eq]; omega)]
  refine Exists.elim (iter_for (step := jetsamref01_Unary_x2_L1 (n : Int)) n (fun i a => a = ((i : Int), b01 (List.replicate i false))) (fun r => r = (0, b01 (List.replicate n false ++ [true]))) (by omega) (fun i a hi ha => ?_) (fun a ha => ?_) (a0 := (0, [])) rfl) (fun r hr => by rw [hr.1, hr.2])
  · subst ha
    left
    unfold jetsamref01_Unary_x2_L1
    rw [if_pos (by simpa using hi), app_ok (by rw [b01_length]; simp; omega)]
    simp only [Option.bind_some]
    refine ⟨_, rfl, ?_⟩
    rw [W_succ (by omega), List.replicate_succ', b01_append]
    rfl
  · subst ha
    unfold jetsamref01_Unary_x2_L1 jetsamref01_Unary_x2_K1
    rw [if_neg (by simp), app_ok (by rw [b01_length]; simp; omega)]
    refine ⟨_, rfl, ?_⟩
    rw [b01_append]
    rfl
end Go.Vg

namespace Go.Vg

/-! ### How many bits a number needs -/
theorem width_min {v : Int} (h1 : -2147483648 < v) (h2 : v < 2147483648) : ∃ w : Nat, rice_width v = some (w : Int) ∧ w ≤ 32 ∧ ∀ n : Nat, n ≤ 48 → (EscOk n v ↔ w ≤ n) := by
  have hmono : ∀ a b : Nat, a ≤ b → (2 : Int) ^ a ≤ 2 ^ b := fun a b h => by
    have := pow_le h
    have e1 := pow_cast a
    have e2 := pow_cast b
    omega
  unfold rice_width
  refine Exists.elim (iter_of (step := rice_width_L1) (I := fun a : Int × Int => ∃ (c : Nat) (x : Int), c ≤ 31 ∧ a = (x, (c : Int)) ∧ (2 : Int) ^ c * x ≤ v ∧ v < (2 : Int) ^ c * (x + 1) ∧ (1 ≤ c → ¬ (-(2 : Int) ^ (c - 1) ≤ v ∧ v < 2 ^ (c - 1)))) (m := fun a => 40 - a.2.toNat) (Q := fun r => ∃ w : Nat, r = (w : Int) ∧ w ≤ 32 ∧ ∀ n : Nat, n ≤ 48 → (EscOk n v ↔ w ≤ n)) (fun a ha => ?_) (a0 := (v, 0)) ⟨0, v, by omega, rfl, by simp, by simp; omega, fun h => by omega⟩ (show 40 - (0 : Int).toNat < ROUNDS by decide)) (fun r hr => let ⟨h1, w, h2, h3⟩ := hr; ⟨w, by rw [h1, h2], h3⟩)
  obtain ⟨c, x, hc, rfl, hA, hB, hC⟩ := ha
  have hP : (0 : Int) < (2 : Int) ^ c := Int.pow_pos (by decide)
  unfold rice_width_L1
  by_cases hx : x = 0 ∨ x = -1
  · right
    rw [if_neg (by rcases hx with rfl | rfl <;> simp)]
    unfold rice_width_K1
    rw [ite_and]
    by_cases h0 : (c : Int) = 0 ∧ x = 0
    · obtain ⟨hc0, rfl⟩ := h0
      obtain rfl : c = 0 := by omega
      refine ⟨0, rfl, 0, rfl, by omega, fun n hn => ⟨fun _ => Nat.zero_le _, fun _ => ?_⟩⟩
      have hv : v = 0 := by simp at hA hB; omega
      subst hv
      by_cases hn0 : n = 0
      · exact .inl ⟨hn0, rfl⟩
      · have := pow_posI (n - 1)
        exact .inr ⟨by omega, hn, by omega, this⟩
    · rw [if_neg (by rw [Bool.and_eq_true, beq_iff_eq, beq_iff_eq]; exact h0)]
      refine ⟨_, rfl, c + 1, by rw [W_succ (by omega)], by omega, fun n hn => ?_⟩
      have hv : -(2 : Int) ^ c ≤ v ∧ v < 2 ^ c := by rcases hx with rfl | rfl <;> (simp at hA hB; omega)
      constructor
      · intro h
        rcases h with ⟨hn0, hv0⟩ | ⟨n1, _, n3, n4⟩
        · -- v = 0: then x = 0, c = 0 would have been seen
          exfalso
          subst hv0
          by_cases hc0 : c = 0
          · subst hc0
            rcases hx with rfl | rfl
            · exact h0 ⟨rfl, rfl⟩
            · simp at hA hB
          · have := pow_posI (c - 1)
            exact hC (by omega) ⟨by omega, this⟩
        · rcases Nat.lt_or_ge c n with h | h
          · exact h
          · exfalso
            have := hmono (n - 1) (c - 1) (by omega)
            by_cases hc0 : c = 0
            · omega
            · exact hC (by omega) ⟨by omega, by omega⟩
      · intro h
        have := hmono c (n - 1) (by omega)
        exact .inr ⟨by omega, hn, by omega, by omega⟩
  · left
    rw [if_pos (by simp; omega), shr1, W_succ (by omega)]
    have hx1 : 2 * (x / 2) ≤ x := by omega
    have hx2 : x + 1 ≤ 2 * (x / 2 + 1) := by omega
    have m1 := Int.mul_le_mul_of_nonneg_left hx1 (Int.le_of_lt hP)
    have m2 := Int.mul_le_mul_of_nonneg_left hx2 (Int.le_of_lt hP)
    refine ⟨_, rfl, ⟨c + 1, x / 2, ?_, rfl, ?_, ?_, ?_⟩, ?_⟩
    · rcases Nat.lt_or_ge c 31 with h | h
      · omega
      · obtain rfl : c = 31 := by omega
        exfalso
        have e : (2 : Int) ^ 31 = 2147483648 := by decide
        rw [e] at hA hB
        omega
    · rw [Int.pow_succ, Int.mul_assoc]; omega
    · rw [Int.pow_succ, Int.mul_assoc]; omega
    · intro _ hr
      simp only [Nat.add_sub_cancel] at hr
      rcases Int.lt_or_gt_of_ne (show x ≠ 0 by omega) with h | h
      · have := Int.mul_le_mul_of_nonneg_left (show x + 1 ≤ -1 by omega) (Int.le_of_lt hP)
        omega
      · have := Int.mul_le_mul_of_nonneg_left (show 1 ≤ x by omega) (Int.le_of_lt hP)
        omega
    · simp only [Int.toNat_natCast]
      omega

/-! ### What a part costs -/
def InR (v : Int) : Prop := -2147483648 < v ∧ v < 2147483648
/-- The reference's one, by a parameter. -/
theorem rone_code {v : Int} {k : Nat} (hk : k ≤ 31) : ∃ l b, jetsamref05_one v (k : Int) 0 = some (l, b) ∧ (b = true ↔ InR v ∧ foldN v / 2 ^ k ≤ 65536) ∧ (b = true → l = b01 (codeBits k v)) := by
  unfold jetsamref05_one
  rw [ite_or]
  by_cases hv : InR v
  · unfold InR at hv
    rw [if_neg (by rw [Bool.or_eq_true, decide_eq_true_eq, decide_eq_true_eq]; omega), if_neg (by rw [decide_eq_true_eq]; omega)]
    have hlt : foldN v < 4294967296 := by unfold foldN; split <;> omega
    have key : ∃ l b, jetsamref05_one_K1 (k : Int) (foldN v : Int) = some (l, b) ∧ (b = true ↔ InR v ∧ foldN v / 2 ^ k ≤ 65536) ∧ (b = true → l = b01 (codeBits k v)) := by
      unfold jetsamref05_one_K1
      have hp : 0 < (2 : Nat) ^ k := Nat.pow_pos (by omega)
      have hpl : (2 : Nat) ^ k ≤ 2 ^ 31 := pow_le hk
      have hle : foldN v / 2 ^ k ≤ foldN v := Nat.div_le_self _ _
      have hmod : foldN v % 2 ^ k < 2 ^ k := Nat.mod_lt _ hp
      have hne : ((((2 ^ k : Nat) : Int)) != 0) = true := by rw [bne_iff_ne]; omega
      rw [need_ok (by simp), shr_nat (by omega)]
      by_cases hu : foldN v / 2 ^ k ≤ 65536
      · rw [if_neg (by rw [decide_eq_true_eq]; generalize foldN v / 2 ^ k = q at *; omega), need_ok (by simp)]
        simp only [lett, runary_is hu, Option.bind_some]
        rw [if_neg (by decide), need_ok (by simp), pow_shl (by omega), need_ok hne]
        have e1 : (foldN v : Int).tmod ((2 ^ k : Nat) : Int) = ((foldN v % 2 ^ k : Nat) : Int) := rfl
        rw [e1, rput2_U (by omega) (by omega) (by have := pow_cast k; omega) (by rw [b01_length]; simp; omega)]
        simp only [Option.bind_some]
        refine ⟨_, _, rfl, ⟨fun _ => ⟨hv, hu⟩, fun _ => rfl⟩, fun _ => ?_⟩
        rw [← b01_append, Int.toNat_natCast]
        rfl
      · rw [if_pos (by rw [decide_eq_true_eq]; generalize foldN v / 2 ^ k = q at *; omega)]
        exact ⟨_, _, rfl, ⟨fun h => (nomatch h), fun h => absurd h.2 hu⟩, fun h => (nomatch h)⟩
    by_cases hn : v < 0
    · rw [if_pos (by simpa using hn)]
      have e : W ((W ((-2) * v)) - 1) = (foldN v : Int) := by
        unfold foldN
        rw [if_pos hn, W_id (x := -2 * v) (by omega) (by omega), W_id (by omega) (by omega)]
        omega
      rw [e]; exact key
    · rw [if_neg (by simpa using hn)]
      have e : W (2 * v) = (foldN v : Int) := by
        unfold foldN
        rw [if_neg hn, W_id (by omega) (by omega)]
        omega
      rw [e]; exact key
  · rw [if_pos (by unfold InR at hv; rw [Bool.or_eq_true, decide_eq_true_eq, decide_eq_true_eq]; omega)]
    exact ⟨_, _, rfl, ⟨fun h => (nomatch h), fun h => absurd h.1 hv⟩, fun h => (nomatch h)⟩
theorem rone_raw {v : Int} {n : Nat} (hn : n ≤ 48) : ∃ l b, jetsamref05_one v (-1) (n : Int) = some (l, b) ∧ (b = true ↔ InR v ∧ EscOk n v) ∧ (b = true → l = b01 (escBits n v)) := by
  unfold jetsamref05_one
  rw [ite_or]
  by_cases hv : InR v
  · rw [if_neg (by unfold InR at hv; rw [Bool.or_eq_true, decide_eq_true_eq, decide_eq_true_eq]; omega), if_pos (by decide)]
    obtain ⟨c, l, h1, h2, h3⟩ := rput_S (v := v) hn
    rw [h1]
    simp only [Option.bind_some]
    refine ⟨_, _, rfl, ?_, fun h => h3 (by simpa using h)⟩
    rw [beq_iff_eq, h2]
    exact ⟨fun h => ⟨hv, h⟩, fun h => h.2⟩
  · rw [if_pos (by unfold InR at hv; rw [Bool.or_eq_true, decide_eq_true_eq, decide_eq_true_eq]; omega)]
    exact ⟨_, _, rfl, ⟨fun h => (nomatch h), fun h => absurd h.1 hv⟩, fun h => (nomatch h)⟩
end Go.Vg

namespace Go.Vg

section
variable {b : List Int} {pos : Nat}
theorem drop_take {L : List Bool} {p n : Nat} (h : p + n ≤ L.length) : L.drop p = (L.drop p).take n ++ L.drop (p + n) := by
  rw [← List.drop_drop, List.take_append_drop]
/-- bits.Reader.Take, inverted. -/
theorem take_inv {n : Nat} (hb : Bytes8 b) (hbl : b.length < 2 ^ 20) (hn : n ≤ 48) (hp : pos ≤ 8 * b.length) :
    (∃ v : Nat, v < 2 ^ n ∧ pos + n ≤ 8 * b.length ∧ bits_Reader_Take (n : Int) ⟨⟨(pos : Int)⟩, b⟩ = some ((v : Int), 0, ((pos + n : Nat) : Int)) ∧ (bitsB b).drop pos = bitsOf n v ++ (bitsB b).drop (pos + n)) ∨
    bits_Reader_Take (n : Int) ⟨⟨(pos : Int)⟩, b⟩ = some (0, 11, (pos : Int)) := by
  by_cases h : pos + n ≤ 8 * b.length
  · left
    have hlen : ((bitsB b).drop pos).length = 8 * b.length - pos := by rw [List.length_drop, bitsB_length]
    have hl : (((bitsB b).drop pos).take n).length = n := by rw [List.length_take, hlen]; omega
    have hlt := num_lt (((bitsB b).drop pos).take n)
    rw [hl] at hlt
    refine ⟨_, hlt, h, take_spec hb hn h (by omega), ?_⟩
    have e := bitsOf_num (((bitsB b).drop pos).take n)
    rw [hl] at e
    rw [e]
    exact drop_take (by rw [bitsB_length]; exact h)
  · right
    unfold bits_Reader_Take bits_Reader_Left
    rw [if_neg (by rw [ite_or, Bool.or_eq_true, decide_eq_true_eq, decide_eq_true_eq]; omega)]
    simp only [Option.bind_some]
    rw [W_id (x := (b.length : Int) * 8) (by omega) (by omega), W_id (by omega) (by omega), if_pos (by rw [decide_eq_true_eq]; omega)]
/-- A signed number, by its bits. -/
theorem sgn_bits {n : Nat} {v : Nat} (h1 : 1 ≤ n) (hn : n ≤ 48) (hv : v < 2 ^ n) : ∃ x : Int, x = (if v / 2 ^ (n - 1) = 1 then (v : Int) - 2 ^ n else (v : Int)) ∧ EscOk n x ∧ escBits n x = bitsOf n v := by
  refine ⟨_, rfl, ?_, ?_⟩
  · have e : (2 : Nat) ^ n = 2 ^ (n - 1) * 2 := by rw [← Nat.pow_succ]; congr 1; omega
    have ei : (2 : Int) ^ n = 2 ^ (n - 1) * 2 := by rw [← Int.pow_succ]; congr 1; omega
    have hc := pow_cast (n - 1)
    have hp : 0 < (2 : Nat) ^ (n - 1) := Nat.pow_pos (by omega)
    have hdm := Nat.div_add_mod v (2 ^ (n - 1))
    have hml := Nat.mod_lt v hp
    have hq : v / 2 ^ (n - 1) ≤ 1 := by
      have : v / 2 ^ (n - 1) < 2 := by rw [Nat.div_lt_iff_lt_mul hp]; omega
      omega
    right
    generalize v / 2 ^ (n - 1) = q at *
    generalize v % 2 ^ (n - 1) = r at *
    rw [ei, ← hc]
    refine ⟨h1, hn, ?_⟩
    rcases (show q = 0 ∨ q = 1 by omega) with rfl | rfl
    · rw [if_neg (by omega)]; omega
    · rw [if_pos rfl]; omega
  · unfold escBits sgn
    congr 1
    have hp := pow_posI n
    have hc := pow_cast n
    split
    · rw [show (v : Int) - 2 ^ n = (v : Int) + 2 ^ n * (-1) by omega, Int.add_mul_emod_self_left, Int.emod_eq_of_lt (by omega) (by omega)]
      omega
    · rw [Int.emod_eq_of_lt (by omega) (by omega)]
      omega
theorem signed_inv {n : Nat} (hb : Bytes8 b) (hbl : b.length < 2 ^ 20) (hn : n ≤ 48) (hp : pos ≤ 8 * b.length) :
    (∃ x : Int, EscOk n x ∧ pos + n ≤ 8 * b.length ∧ bits_Reader_Signed (n : Int) ⟨⟨(pos : Int)⟩, b⟩ = some (x, 0, ((pos + n : Nat) : Int)) ∧ (bitsB b).drop pos = escBits n x ++ (bitsB b).drop (pos + n)) ∨
    bits_Reader_Signed (n : Int) ⟨⟨(pos : Int)⟩, b⟩ = some (0, 11, (pos : Int)) := by
  rcases take_inv (n := n) hb hbl hn hp with ⟨v, h1, h2, h3, h4⟩ | h
  · left
    by_cases h0 : n = 0
    · subst h0
      obtain rfl : v = 0 := by simpa using h1
      refine ⟨0, .inl ⟨rfl, rfl⟩, h2, ?_, h4⟩
      unfold bits_Reader_Signed
      rw [h3]
      rfl
    · obtain ⟨x, hx, g1, g2⟩ := sgn_bits (by omega) hn h1
      refine ⟨x, g1, h2, ?_, by rw [g2]; exact h4⟩
      have := signed_spec (n := n) (p := pos) hb (by omega) hn h2 (by omega)
      have e : num (((bitsB b).drop pos).take n) = v := by
        rw [h4, List.take_left' (bitsOf_length n v), num_bitsOf, Nat.mod_eq_of_lt h1]
      rw [e] at this
      rw [this, hx]
  · right
    unfold bits_Reader_Signed
    rw [h]
    rfl
/-- Noughts up to a one. -/
theorem unary_inv (hb : Bytes8 b) (hbl : b.length < 2 ^ 20) (hp : pos ≤ 8 * b.length) :
    (∃ n : Nat, pos + n + 1 ≤ 8 * b.length ∧ bits_Reader_Unary ⟨⟨(pos : Int)⟩, b⟩ = some ((n : Int), 0, ((pos + n + 1 : Nat) : Int)) ∧ (bitsB b).drop pos = (List.replicate n false ++ [true]) ++ (bitsB b).drop (pos + n + 1)) ∨
    bits_Reader_Unary ⟨⟨(pos : Int)⟩, b⟩ = some (0, 11, (pos : Int)) := by
  -- is there a one?
  have key : ∀ L : List Bool, (∃ n t, L = List.replicate n false ++ true :: t) ∨ L = List.replicate L.length false := by
    intro L
    induction L with
    | nil => exact .inr rfl
    | cons x L ih =>
      cases x with
      | true => exact .inl ⟨0, L, rfl⟩
      | false =>
        rcases ih with ⟨n, t, h⟩ | h
        · exact .inl ⟨n + 1, t, by rw [h]; rfl⟩
        · exact .inr (by rw [List.length_cons, List.replicate_succ, ← h])
  rcases key ((bitsB b).drop pos) with ⟨n, t, h⟩ | h
  · left
    have hu := unary_spec hb h hbl hp
    have hlen : pos + n + 1 ≤ 8 * b.length := by
      have := congrArg List.length h
      simp only [List.length_drop, bitsB_length, List.length_append, List.length_replicate, List.length_cons] at this
      omega
    refine ⟨n, hlen, hu, ?_⟩
    have e : (bitsB b).drop pos = (List.replicate n false ++ [true]) ++ t := by rw [h]; simp
    have e2 := drop_more e
    simp only [List.length_append, List.length_replicate, List.length_singleton] at e2
    rw [e, ← e2, ← Nat.add_assoc]
  · right
    have hz : ∀ q, pos ≤ q → q < 8 * b.length → (bitsB b)[q]? = some false := by
      intro q h1 h2
      have : ((bitsB b).drop pos)[q - pos]? = (List.replicate ((bitsB b).drop pos).length false)[q - pos]? := by rw [← h]
      rw [List.getElem?_drop, show pos + (q - pos) = q by omega, List.getElem?_replicate, List.length_drop, bitsB_length, if_pos (by omega)] at this
      exact this
    unfold bits_Reader_Unary
    have eN : W ((b.length : Int) * 8) = ((8 * b.length : Nat) : Int) := by rw [W_id (by omega) (by omega)]; omega
    refine Exists.elim (iter_of (step := bits_Reader_Unary_L1 ⟨⟨(pos : Int)⟩, b⟩) (I := fun a => ∃ q : Nat, a = (q : Int) ∧ pos ≤ q ∧ q ≤ 8 * b.length) (m := fun a => 8 * b.length - a.toNat) (Q := fun r => r = (0, 11, (pos : Int))) (fun a ha => ?_) (a0 := (pos : Int)) ⟨pos, rfl, Nat.le_refl _, hp⟩ (lt_ROUNDS (by omega))) (fun r hr => by rw [← hr.2]; exact hr.1)
    obtain ⟨q, rfl, q1, q2⟩ := ha
    unfold bits_Reader_Unary_L1
    rw [eN]
    by_cases hq : q < 8 * b.length
    · left
      rw [if_pos (by rw [decide_eq_true_eq]; omega), tmod8]
      obtain ⟨v, g1, g2⟩ := bit_spec (q := (pos : Int)) hb hq (by omega)
      rw [hz q q1 hq] at g1
      cases g1
      have e1 : W ((q : Int) + 1) = ((q + 1 : Nat) : Int) := W_succ (by omega)
      by_cases h0 : q % 8 = 0
      · rw [if_pos (by rw [beq_iff_eq]; omega), tdiv8, W_id (by omega) (by omega), idx_nat (l := b) (i := q / 8) (by omega)]
        simp only [Option.bind_some]
        by_cases hx : b[q / 8]'(by omega) = 0
        · rw [if_pos (by simpa using hx)]
          have e8 : W ((q : Int) + 8) = ((q + 8 : Nat) : Int) := by rw [W_id (by omega) (by omega)]; omega
          refine ⟨_, rfl, ⟨q + 8, e8, by omega, by omega⟩, ?_⟩
          rw [e8]; simp only [Int.toNat_natCast]; omega
        · rw [if_neg (by simpa using hx), g2]
          simp only [Option.bind_some]
          rw [if_pos (by rfl)]
          refine ⟨_, rfl, ⟨q + 1, e1, by omega, by omega⟩, ?_⟩
          rw [e1]; simp only [Int.toNat_natCast]; omega
      · rw [if_neg (by rw [beq_iff_eq]; omega), g2]
        simp only [Option.bind_some]
        rw [if_pos (by rfl)]
        refine ⟨_, rfl, ⟨q + 1, e1, by omega, by omega⟩, ?_⟩
        rw [e1]; simp only [Int.toNat_natCast]; omega
    · right
      rw [if_neg (by rw [decide_eq_true_eq]; omega)]
      unfold bits_Reader_Unary_K1
      rw [eN, if_pos (by rw [decide_eq_true_eq]; omega)]
      exact ⟨_, rfl, rfl⟩

/-- What a step of reading answers: an error that was there stays; else it read these bits, or there is an error now. -/
def Step (b : List Int) (pos : Nat) (e : Int) (bits : List Bool) (e' : Int) (p' : Int) : Prop :=
  ∃ q : Nat, p' = (q : Int) ∧ q ≤ 8 * b.length ∧ (e ≠ 0 → e' = e) ∧ (e = 0 → (e' = 0 ∨ e' = 10 ∨ e' = 11 ∨ e' = 12 ∨ e' = 13)) ∧ (e' = 0 → e = 0 ∧ q = pos + bits.length ∧ (bitsB b).drop pos = bits ++ (bitsB b).drop q)
theorem stake_inv {n : Nat} {e : Int} (hb : Bytes8 b) (hbl : b.length < 2 ^ 20) (hn : n ≤ 48) (hp : pos ≤ 8 * b.length) :
    ∃ (v : Nat) (e' p' : Int), subframe_reader_take (n : Int) e ⟨⟨(pos : Int)⟩, b⟩ = some ((v : Int), e', p') ∧ v < 2 ^ n ∧ Step b pos e (bitsOf n v) e' p' ∧ (e' ≠ 0 → v = 0) := by
  have h2 : 0 < (2 : Nat) ^ n := Nat.pow_pos (by omega)
  unfold subframe_reader_take subframe_reader_told
  rcases take_inv (n := n) hb hbl hn hp with ⟨v, h1, h2', h3, h4⟩ | h
  · rw [h3]
    simp only [Option.bind_some]
    by_cases he : e = 0
    · subst he
      rw [if_neg (by decide)]
      exact ⟨v, 0, _, rfl, h1, ⟨pos + n, rfl, h2', fun h => absurd rfl h, fun _ => .inl rfl, fun _ => ⟨rfl, by rw [bitsOf_length], h4⟩⟩, fun h => absurd rfl h⟩
    · rw [if_pos (by simpa using he)]
      exact ⟨0, e, _, rfl, h2, ⟨pos + n, rfl, h2', fun _ => rfl, fun h => absurd h he, fun h => absurd h he⟩, fun _ => rfl⟩
  · rw [h]
    simp only [Option.bind_some]
    by_cases he : e = 0
    · subst he
      rw [if_neg (by decide)]
      exact ⟨0, 11, _, rfl, h2, ⟨pos, rfl, hp, fun h => absurd rfl h, fun _ => .inr (.inr (.inl rfl)), fun h => (nomatch h)⟩, fun _ => rfl⟩
    · rw [if_pos (by simpa using he)]
      exact ⟨0, e, _, rfl, h2, ⟨pos, rfl, hp, fun _ => rfl, fun h => absurd h he, fun h => absurd h he⟩, fun _ => rfl⟩
theorem ssigned_inv {n : Nat} {e : Int} (hb : Bytes8 b) (hbl : b.length < 2 ^ 20) (hn : n ≤ 48) (hp : pos ≤ 8 * b.length) :
    ∃ (x e' p' : Int), subframe_reader_signed (n : Int) e ⟨⟨(pos : Int)⟩, b⟩ = some (x, e', p') ∧ Step b pos e (escBits n x) e' p' ∧ (e' = 0 → EscOk n x) ∧ (e' ≠ 0 → x = 0) := by
  unfold subframe_reader_signed subframe_reader_told
  rcases signed_inv (n := n) hb hbl hn hp with ⟨v, h1, h2', h3, h4⟩ | h
  · rw [h3]
    simp only [Option.bind_some]
    by_cases he : e = 0
    · subst he
      rw [if_neg (by decide)]
      exact ⟨v, 0, _, rfl, ⟨pos + n, rfl, h2', fun h => absurd rfl h, fun _ => .inl rfl, fun _ => ⟨rfl, by rw [escBits_length], h4⟩⟩, fun _ => h1, fun h => absurd rfl h⟩
    · rw [if_pos (by simpa using he)]
      exact ⟨0, e, _, rfl, ⟨pos + n, rfl, h2', fun _ => rfl, fun h => absurd h he, fun h => absurd h he⟩, fun h => absurd h he, fun _ => rfl⟩
  · rw [h]
    simp only [Option.bind_some]
    by_cases he : e = 0
    · subst he
      rw [if_neg (by decide)]
      exact ⟨0, 11, _, rfl, ⟨pos, rfl, hp, fun h => absurd rfl h, fun _ => .inr (.inr (.inl rfl)), fun h => (nomatch h)⟩, fun h => (nomatch h), fun _ => rfl⟩
    · rw [if_pos (by simpa using he)]
      exact ⟨0, e, _, rfl, ⟨pos, rfl, hp, fun _ => rfl, fun h => absurd h he, fun h => absurd h he⟩, fun h => absurd h he, fun _ => rfl⟩
theorem wrong_is {is : Bool} {c e : Int} {y : bits_Reader} (hc : c ≠ 0) : ∃ e', subframe_reader_wrong is c e y = some e' ∧ (e' = 0 ↔ e = 0 ∧ is = false) ∧ (e ≠ 0 → e' = e) ∧ (e = 0 → e' = 0 ∨ e' = c) := by
  unfold subframe_reader_wrong
  rw [ite_and]
  by_cases h : is = true ∧ e = 0
  · rw [if_pos (by rw [Bool.and_eq_true, beq_iff_eq]; exact h)]
    exact ⟨c, rfl, ⟨fun h2 => absurd h2 hc, fun h2 => by rw [h.1] at h2; cases h2.2⟩, fun h2 => absurd h.2 h2, fun _ => .inr rfl⟩
  · rw [if_neg (by rw [Bool.and_eq_true, beq_iff_eq]; exact h)]
    refine ⟨e, rfl, ⟨fun h2 => ⟨h2, ?_⟩, fun h2 => h2.1⟩, fun _ => rfl, fun h => .inl h⟩
    cases is with
    | false => rfl
    | true => exact absurd ⟨rfl, h2⟩ h
theorem Step.trans {e e1 e2 p1 p2 : Int} {x y : List Bool} (h1 : Step b pos e x e1 p1) (h2 : ∀ q : Nat, p1 = (q : Int) → Step b q e1 y e2 p2) : Step b pos e (x ++ y) e2 p2 := by
  obtain ⟨q1, rfl, a1, a2, a3, a4⟩ := h1
  obtain ⟨q2, rfl, b1, b2, b3, b4⟩ := h2 q1 rfl
  refine ⟨q2, rfl, b1, fun he => ?_, fun he => ?_, fun he => ?_⟩
  · have := a2 he
    rw [b2 (by rw [this]; exact he), this]
  · by_cases h : e1 = 0
    · exact b3 h
    · rw [b2 h]; exact a3 he
  · obtain ⟨c1, c2, c3⟩ := b4 he
    obtain ⟨d1, d2, d3⟩ := a4 c1
    exact ⟨d1, by rw [List.length_append]; omega, by rw [d3, c3, List.append_assoc]⟩
/-- An error that is noted. -/
theorem Step.wrong {e e1 e2 p1 : Int} {x : List Bool} (h1 : Step b pos e x e1 p1) (h2 : e1 ≠ 0 → e2 = e1) (h3 : e1 = 0 → e2 = 0 ∨ e2 = 10 ∨ e2 = 12 ∨ e2 = 13) : Step b pos e x e2 p1 := by
  obtain ⟨q1, hq, a1, a2, a3, a4⟩ := h1
  refine ⟨q1, hq, a1, fun he => ?_, fun he => ?_, fun he => ?_⟩
  · have := a2 he
    rw [h2 (by rw [this]; exact he), this]
  · by_cases h : e1 = 0
    · have := h3 h; omega
    · rw [h2 h]; exact a3 he
  · have : e1 = 0 := Classical.byContradiction fun h => h (by rw [← h2 h]; exact he)
    exact a4 this
end
end Go.Vg

namespace Go.Vg

section
variable {b : List Int} {pos : Nat}
theorem Step.conv {e e' p' : Int} {x y : List Bool} (h : Step b pos e x e' p') (hx : e' = 0 → x = y) : Step b pos e y e' p' := by
  obtain ⟨q, hq, a1, a2, a3, a4⟩ := h
  refine ⟨q, hq, a1, a2, a3, fun he => ?_⟩
  rw [← hx he]
  exact a4 he
theorem Step.zero {e e' p' : Int} {x : List Bool} (h : Step b pos e x e' p') (he : e' = 0) : e = 0 := let ⟨_, _, _, _, _, a4⟩ := h; (a4 he).1
/-- What subframe.head tells where there was no error. -/
structure HeadIs (p : subframe_Plan) (depth : Int) : Prop where
  k1 : 0 ≤ p.Kind
  k2 : p.Kind ≤ 3
  w1 : 0 ≤ p.Wasted
  w2 : p.Wasted < depth
  o1 : 0 ≤ p.Order
  o2 : p.Order ≤ 32
  ofix : p.Kind = 2 → p.Order ≤ 4
  oplain : p.Kind < 2 → p.Order = 0
  olin : p.Kind = 3 → 1 ≤ p.Order
theorem head_K1_inv {depth kind order e : Int} {y2 : bits_Reader} {r4 : Int × Int × Int} (hb : Bytes8 b) (hbl : b.length < 2 ^ 20) (hy : y2.m_b = b) (hr : r4.2.2 = (pos : Int)) (hp : pos ≤ 8 * b.length) :
    ∃ (w : Nat) (e' p' : Int), subframe_reader_head_K1 depth y2 r4 (e, kind, order) = some (kind, order, (w : Int), e', p') ∧ Step b pos e (wasteBits w) e' p' ∧ (e' = 0 → w = 0 ∨ (w : Int) < depth) := by
  unfold subframe_reader_head_K1
  rw [hr, hy]
  obtain ⟨v, e1, p1, h1, h2, h3, h4⟩ := stake_inv (n := 1) (e := e) hb hbl (by omega) hp
  have h1' : subframe_reader_take 1 e ⟨⟨(pos : Int)⟩, b⟩ = _ := h1
  simp only [h1', Option.bind_some]
  have hv2 : v < 2 := by simpa using h2
  by_cases hv : v = 1
  · subst hv
    rw [if_pos (by rfl)]
    obtain ⟨q1, rfl, a1, a2, a3, a4⟩ := h3
    have he1 : e1 = 0 := Classical.byContradiction fun h => by have := h4 h; omega
    subst he1
    obtain ⟨he, c2, c3⟩ := a4 rfl
    subst he
    rcases unary_inv hb hbl a1 with ⟨n, g1, g2, g3⟩ | g
    · simp only [g2, Option.bind_some, subframe_reader_told]
      rw [if_neg (by decide)]
      simp only [Option.bind_some, lett]
      have ew : W ((n : Int) + 1) = ((n + 1 : Nat) : Int) := W_succ (by omega)
      rw [ew]
      obtain ⟨e', k1, k2, k3, k4⟩ := wrong_is (is := decide (((n + 1 : Nat) : Int) ≥ depth)) (c := 10) (e := 0) (y := ⟨⟨((q1 + n + 1 : Nat) : Int)⟩, b⟩) (by decide)
      rw [k1]
      simp only [Option.bind_some]
      unfold subframe_reader_head_K2
      refine ⟨n + 1, e', _, rfl, ?_, fun he => ?_⟩
      · have hwb : wasteBits (n + 1) = bitsOf 1 1 ++ (List.replicate n false ++ [true]) := by
          unfold wasteBits
          rw [if_neg (by omega)]
          rfl
        refine ⟨q1 + n + 1, rfl, g1, fun h => absurd rfl h, fun _ => by rcases k4 rfl with h | h <;> omega, fun he => ⟨rfl, ?_, ?_⟩⟩
        · rw [hwb]; simp only [List.length_append, bitsOf_length, List.length_replicate, List.length_singleton]; rw [bitsOf_length] at c2; omega
        · rw [hwb, c3, g3]; simp only [List.append_assoc]
      · right
        have := (k2.1 he).2
        rw [decide_eq_false_iff_not] at this
        omega
    · simp only [g, Option.bind_some, subframe_reader_told]
      rw [if_neg (by decide)]
      simp only [Option.bind_some, lett]
      have ew : W (0 + 1) = ((1 : Nat) : Int) := by decide
      rw [ew]
      obtain ⟨e', k1, k2, k3, k4⟩ := wrong_is (is := decide (((1 : Nat) : Int) ≥ depth)) (c := 10) (e := 11) (y := ⟨⟨(q1 : Int)⟩, b⟩) (by decide)
      rw [k1]
      simp only [Option.bind_some]
      unfold subframe_reader_head_K2
      have he' := k3 (by decide)
      refine ⟨1, e', _, rfl, ⟨q1, rfl, a1, fun h => absurd rfl h, fun _ => by omega, fun he => by omega⟩, fun he => by omega⟩
  · obtain rfl : v = 0 := by omega
    rw [if_neg (by decide)]
    unfold subframe_reader_head_K2
    exact ⟨0, e1, p1, rfl, h3, fun _ => .inl rfl⟩
theorem head_inv {depth : Int} (hd1 : 4 ≤ depth) (hb : Bytes8 b) (hbl : b.length < 2 ^ 20) (hp : pos ≤ 8 * b.length) :
    ∃ (kind order : Int) (w : Nat) (e' p' : Int), subframe_reader_head depth 0 ⟨⟨(pos : Int)⟩, b⟩ = some (kind, order, (w : Int), e', p') ∧
      ∀ p : subframe_Plan, p.Kind = kind → p.Order = order → p.Wasted = (w : Int) → Step b pos 0 (bitsOf 7 (kindN p) ++ wasteBits w) e' p' ∧ (e' = 0 → HeadIs p depth) := by
  unfold subframe_reader_head
  obtain ⟨v, e1, p1, h1, h2, h3, h4⟩ := stake_inv (n := 1) (e := 0) hb hbl (by omega) hp
  have h1' : subframe_reader_take 1 0 ⟨⟨(pos : Int)⟩, b⟩ = _ := h1
  rw [h1']
  simp only [Option.bind_some, lett]
  obtain ⟨e2, k1, k2, k3, k4⟩ := wrong_is (is := ((v : Int) == 1)) (c := 12) (e := e1) (y := ⟨⟨p1⟩, b⟩) (by decide)
  rw [k1]
  simp only [Option.bind_some]
  have h3' := h3.wrong k3 (fun h => by rcases k4 h with h | h <;> omega)
  obtain ⟨q1, rfl, a1, a2, a3, a4⟩ := h3
  obtain ⟨v6, e3, p3, g1, g2, g3, g4⟩ := stake_inv (n := 6) (e := e2) hb hbl (by omega) a1
  have g1' : subframe_reader_take 6 e2 ⟨⟨(q1 : Int)⟩, b⟩ = _ := g1
  rw [g1']
  simp only [Option.bind_some]
  have g3' := h3'.trans (y := bitsOf 6 v6) (fun q hq => by
    obtain rfl : q1 = q := by omega
    exact g3)
  have g3z := fun h => g3.zero h
  obtain ⟨q3, rfl, c1, _⟩ := g3
  have hv0 : e2 = 0 → v = 0 := fun h => by
    have := (k2.1 h).2
    rw [beq_eq_false_iff_ne] at this
    have : v < 2 := by simpa using h2
    omega
  have hv6 : v6 < 64 := by simpa using g2
  have h7 : ∀ e' : Int, e2 = 0 → e' = 0 → bitsOf 1 v ++ bitsOf 6 v6 = bitsOf 7 v6 := fun e' h he => by
    rw [hv0 h]
    have := bitsOf_add 1 6 v6
    rw [Nat.div_eq_of_lt (by omega)] at this
    exact this.symm
  have fin : ∀ (kind order e4 : Int), (e3 ≠ 0 → e4 = e3) → (e3 = 0 → e4 = 0 ∨ e4 = 10 ∨ e4 = 12 ∨ e4 = 13) → (e4 = 0 → ∀ p : subframe_Plan, p.Kind = kind → p.Order = order → kindN p = v6 ∧ (0 ≤ kind ∧ kind ≤ 3 ∧ 0 ≤ order ∧ order ≤ 32 ∧ (kind = 2 → order ≤ 4) ∧ (kind < 2 → order = 0) ∧ (kind = 3 → 1 ≤ order))) →
      ∃ (kind' order' : Int) (w : Nat) (e' p' : Int), subframe_reader_head_K1 depth ⟨⟨(pos : Int)⟩, b⟩ ((v6 : Int), e3, (q3 : Int)) (e4, kind, order) = some (kind', order', (w : Int), e', p') ∧
        ∀ p : subframe_Plan, p.Kind = kind' → p.Order = order' → p.Wasted = (w : Int) → Step b pos 0 (bitsOf 7 (kindN p) ++ wasteBits w) e' p' ∧ (e' = 0 → HeadIs p depth) := by
    intro kind order e4 x1 x2 x3
    have g4' := g3'.wrong x1 x2
    obtain ⟨w, e', p', y1, y2, y3⟩ := head_K1_inv (pos := q3) (depth := depth) (kind := kind) (order := order) (e := e4) (y2 := ⟨⟨(pos : Int)⟩, b⟩) (r4 := ((v6 : Int), e3, (q3 : Int))) hb hbl rfl rfl c1
    refine ⟨kind, order, w, e', p', y1, fun p hk ho hw => ?_⟩
    have hst := g4'.trans (y := wasteBits w) (fun q hq => by
      obtain rfl : q3 = q := by omega
      exact y2)
    refine ⟨hst.conv fun he => ?_, fun he => ?_⟩
    · have z4 := y2.zero he
      have z3 : e3 = 0 := Classical.byContradiction fun h => h (by rw [← x1 h]; exact z4)
      have z2 : e2 = 0 := g3z z3
      rw [h7 e' z2 he, ((x3 z4) p hk ho).1]
    · have z4 := y2.zero he
      obtain ⟨_, w1, w2, w3, w4, w5, w6, w7⟩ := x3 z4 p hk ho
      refine ⟨by omega, by omega, by omega, ?_, by omega, by omega, fun h => by rw [ho]; exact w5 (by omega), fun h => by rw [ho]; exact w6 (by omega), fun h => by rw [ho]; exact w7 (by omega)⟩
      rcases y3 he with h | h
      · subst h; rw [hw]; omega
      · rw [hw]; exact h
  have hk0 : ∀ p : subframe_Plan, p.Kind = 0 → kindN p = 0 := fun p h => by unfold kindN; rw [if_pos h]
  have hk1 : ∀ p : subframe_Plan, p.Kind = 1 → kindN p = 1 := fun p h => by unfold kindN; rw [if_neg (by omega), if_pos h]
  have hk2 : ∀ p : subframe_Plan, p.Kind = 2 → kindN p = 8 + p.Order.toNat := fun p h => by unfold kindN; rw [if_neg (by omega), if_neg (by omega), if_pos h]
  have hk3 : ∀ p : subframe_Plan, p.Kind = 3 → kindN p = 31 + p.Order.toNat := fun p h => by unfold kindN; rw [if_neg (by omega), if_neg (by omega), if_neg (by omega)]
  by_cases c0 : v6 ≤ 1
  · rw [if_pos (by rw [decide_eq_true_eq]; omega)]
    refine fin (v6 : Int) 0 e3 (fun _ => rfl) (fun h => .inl h) (fun _ p hk ho => ⟨?_, by omega, by omega, by omega, by omega, fun h => by omega, fun _ => rfl, fun h => by omega⟩)
    rcases (show v6 = 0 ∨ v6 = 1 by omega) with rfl | rfl
    · exact hk0 p hk
    · exact hk1 p hk
  rw [if_neg (by rw [decide_eq_true_eq]; omega), ite_and]
  by_cases c2 : 8 ≤ v6 ∧ v6 ≤ 12
  · rw [if_pos (by rw [Bool.and_eq_true, decide_eq_true_eq, decide_eq_true_eq]; omega)]
    have e8 : W ((v6 : Int) - 8) = ((v6 - 8 : Nat) : Int) := by rw [W_id (by omega) (by omega)]; omega
    rw [e8]
    exact fin 2 ((v6 - 8 : Nat) : Int) e3 (fun _ => rfl) (fun h => .inl h) (fun _ p hk ho => ⟨by rw [hk2 p hk, ho]; omega, by omega, by omega, by omega, by omega, fun h => by omega, fun h => by omega, fun h => by omega⟩)
  rw [if_neg (by rw [Bool.and_eq_true, decide_eq_true_eq, decide_eq_true_eq]; omega)]
  by_cases c3 : 31 < v6
  · rw [if_pos (by rw [decide_eq_true_eq]; omega)]
    have e31 : W ((v6 : Int) - 31) = ((v6 - 31 : Nat) : Int) := by rw [W_id (by omega) (by omega)]; omega
    rw [e31]
    exact fin 3 ((v6 - 31 : Nat) : Int) e3 (fun _ => rfl) (fun h => .inl h) (fun _ p hk ho => ⟨by rw [hk3 p hk, ho]; omega, by omega, by omega, by omega, by omega, fun h => by omega, fun h => by omega, fun h => by omega⟩)
  rw [if_neg (by rw [decide_eq_true_eq]; omega)]
  obtain ⟨e4, j1, j2, j3, j4⟩ := wrong_is (is := true) (c := 13) (e := e3) (y := ⟨⟨(q3 : Int)⟩, b⟩) (by decide)
  rw [j1]
  simp only [Option.bind_some]
  exact fin 0 0 e4 j3 (fun h => by rcases j4 h with h | h <;> omega) (fun h => by have := (j2.1 h).2; cases this)
end
end Go.Vg

namespace Go.Vg

section
variable {b : List Int} {pos : Nat}
theorem Step.refl (h : pos ≤ 8 * b.length) (e : Int) (he : e = 0 ∨ e = 10 ∨ e = 11 ∨ e = 12 ∨ e = 13) : Step b pos e [] e (pos : Int) :=
  ⟨pos, rfl, h, fun _ => rfl, fun _ => he, fun h => ⟨h, rfl, rfl⟩⟩
theorem linear_inv {order : Nat} {e : Int} (ho : order ≤ 32) (hb : Bytes8 b) (hbl : b.length < 2 ^ 20) (hp : pos ≤ 8 * b.length) :
    ∃ (q : predict_Linear) (e' p' : Int), subframe_reader_linear (order : Int) e ⟨⟨(pos : Int)⟩, b⟩ = some (q.Precision, q.Shift, q.Coefs, e', p') ∧ Step b pos e (linBits q) e' p' ∧ (e' = 0 → LinOk q ∧ q.Coefs.length = order) := by
  obtain ⟨v, e1, p1, h1, h2, h3, h4⟩ := stake_inv (n := 4) (e := e) hb hbl (by omega) hp
  have h1' : subframe_reader_take 4 e ⟨⟨(pos : Int)⟩, b⟩ = _ := h1
  have hv : v < 16 := by simpa using h2
  have ev : W ((v : Int) + 1) = ((v + 1 : Nat) : Int) := W_succ (by omega)
  obtain ⟨e2, k1, k2, k3, k4⟩ := wrong_is (is := ((v + 1 : Nat) : Int) == 16) (c := 13) (e := e1) (y := ⟨⟨p1⟩, b⟩) (by decide)
  have h3' := h3.wrong k3 (fun h => by rcases k4 h with h | h <;> omega)
  obtain ⟨q1, rfl, a1, _⟩ := h3
  obtain ⟨x, e3, p3, g1, g2, g3, g4⟩ := ssigned_inv (n := 5) (e := e2) hb hbl (by omega) a1
  have g1' : subframe_reader_signed 5 e2 ⟨⟨(q1 : Int)⟩, b⟩ = _ := g1
  obtain ⟨e4, j1, j2, j3, j4⟩ := wrong_is (is := decide (x < 0)) (c := 10) (e := e3) (y := ⟨⟨p3⟩, b⟩) (by decide)
  have g2' := g2.wrong j3 (fun h => by rcases j4 h with h | h <;> omega)
  have hst := h3'.trans (y := escBits 5 x) (fun q hq => by
    obtain rfl : q1 = q := by omega
    exact g2')
  have g2z := fun h => g2.zero h
  obtain ⟨q3, rfl, c1, _⟩ := g2
  unfold subframe_reader_linear
  rw [h1']
  simp only [Option.bind_some, lett, ev]
  rw [k1]
  simp only [Option.bind_some]
  rw [g1']
  simp only [Option.bind_some]
  rw [j1]
  simp only [Option.bind_some]
  refine Exists.elim (iter_for (step := subframe_reader_linear_L1 (order : Int) ⟨⟨(pos : Int)⟩, b⟩ ((v : Int), e1, (q1 : Int)) (x, e3, (q3 : Int))) order (fun i a => a.1 = (i : Int) ∧ a.2.2.2.length ≤ i ∧ Step b pos e (bitsOf 4 v ++ escBits 5 x ++ a.2.2.2.flatMap (escBits (v + 1))) a.2.1 a.2.2.1 ∧ (a.2.1 = 0 → e4 = 0 ∧ a.2.2.2.length = i ∧ ∀ y, y ∈ a.2.2.2 → EscOk (v + 1) y))
    (fun r => r.1 = ((v + 1 : Nat) : Int) ∧ r.2.1 = x ∧ Step b pos e (bitsOf 4 v ++ escBits 5 x ++ r.2.2.1.flatMap (escBits (v + 1))) r.2.2.2.1 r.2.2.2.2 ∧ (r.2.2.2.1 = 0 → e4 = 0 ∧ r.2.2.1.length = order ∧ ∀ y, y ∈ r.2.2.1 → EscOk (v + 1) y)) (by omega) (fun i a hi ha => ?_) (fun a ha => ?_) (a0 := (0, e4, (q3 : Int), [])) ⟨rfl, Nat.le_refl _, by simpa using hst, fun h => ⟨h, rfl, fun y hy => by cases hy⟩⟩) (fun r hr => ?_)
  · obtain ⟨i1, i2, i3, i4⟩ := ha
    left
    unfold subframe_reader_linear_L1 subframe_reader_linear_K2
    rw [i1, if_pos (by simpa using hi)]
    by_cases he : a.2.1 = 0
    · obtain ⟨z1, z2, z3⟩ := i4 he
      have i3' := i3
      obtain ⟨qa, hqa, d1, _⟩ := i3
      rw [if_pos (by simpa using he)]
      simp only [lett, ev, hqa]
      obtain ⟨y, e5, p5, m1, m2, m3, m4⟩ := ssigned_inv (n := v + 1) (e := a.2.1) (pos := qa) hb hbl (by omega) d1
      rw [m1]
      simp only [Option.bind_some]
      rw [app_ok (by simp; omega)]
      simp only [Option.bind_some]
      refine ⟨_, rfl, W_succ (by omega), by simp; omega, ?_, fun h => ⟨z1, by simp; omega, fun y' hy' => ?_⟩⟩
      · have := i3'.trans (y := escBits (v + 1) y) (fun q hq => by
          obtain rfl : qa = q := by omega
          exact m2)
        simpa only [List.flatMap_append, List.flatMap_cons, List.flatMap_nil, List.append_nil, List.append_assoc] using this
      · rcases List.mem_append.1 hy' with h' | h'
        · exact z3 y' h'
        · rw [List.mem_singleton] at h'; subst h'; exact m3 h
    · rw [if_neg (by simpa using he)]
      exact ⟨_, rfl, W_succ (by omega), Nat.le_succ_of_le i2, i3, fun h => absurd h he⟩
  · obtain ⟨i1, i2, i3, i4⟩ := ha
    unfold subframe_reader_linear_L1 subframe_reader_linear_K1
    rw [i1, if_neg (by simp), ev]
    exact ⟨_, rfl, rfl, rfl, i3, i4⟩
  · obtain ⟨hr0, r1, r2, r3, r4⟩ := hr
    refine ⟨⟨((v + 1 : Nat) : Int), x, r.2.2.1⟩, r.2.2.2.1, r.2.2.2.2, ?_, ?_, fun he => ?_⟩
    · rw [hr0]
      refine congrArg some ?_
      exact Prod.ext r1 (Prod.ext r2 rfl)
    · unfold linBits
      have e1 : ((v + 1 : Nat) : Int).toNat - 1 = v := by omega
      have e2 : ((v + 1 : Nat) : Int).toNat = v + 1 := by omega
      show Step b pos e (bitsOf 4 (((v + 1 : Nat) : Int).toNat - 1) ++ (escBits 5 x ++ r.2.2.1.flatMap (escBits ((v + 1 : Nat) : Int).toNat))) _ _
      rw [e1, e2, ← List.append_assoc]
      exact r3
    · obtain ⟨z1, z2, z3⟩ := r4 he
      have y3 := (j2.1 z1)
      have hx0 : 0 ≤ x := by
        have := y3.2
        rw [decide_eq_false_iff_not] at this
        omega
      have y2 := g2z y3.1
      have hv15 : v + 1 ≠ 16 := by
        have := (k2.1 y2).2
        rw [beq_eq_false_iff_ne] at this
        omega
      have hx5 := g3 y3.1
      have hx15 : x ≤ 15 := by
        rcases hx5 with ⟨h, _⟩ | ⟨_, _, _, h⟩
        · omega
        · have e : (2 : Int) ^ (5 - 1) = 16 := by decide
          omega
      refine ⟨⟨by show r.2.2.1.length ≤ 32; omega, by show 1 ≤ ((v + 1 : Nat) : Int); omega, by show ((v + 1 : Nat) : Int) ≤ 15; omega, hx0, hx15, fun y hy => ?_⟩, z2⟩
      have e2 : ((v + 1 : Nat) : Int).toNat = v + 1 := by omega
      show -(2 : Int) ^ (((v + 1 : Nat) : Int).toNat - 1) ≤ y ∧ y < 2 ^ (((v + 1 : Nat) : Int).toNat - 1)
      rw [e2]
      rcases z3 y hy with ⟨h, _⟩ | ⟨_, _, h3, h4⟩
      · omega
      · exact ⟨h3, h4⟩

/-! ### Rice -/
theorem rnum_inv {n : Nat} {e : Int} (hb : Bytes8 b) (hbl : b.length < 2 ^ 20) (hn : n ≤ 48) (hp : pos ≤ 8 * b.length) :
    ∃ (v : Nat) (e' p' : Int), rice_reader_number (n : Int) e ⟨⟨(pos : Int)⟩, b⟩ = some ((v : Int), e', p') ∧ v < 2 ^ n ∧ Step b pos e (bitsOf n v) e' p' ∧ (e' ≠ 0 → v = 0) := by
  have h2 : 0 < (2 : Nat) ^ n := Nat.pow_pos (by omega)
  unfold rice_reader_number rice_reader_take rice_reader_number_c1
  by_cases he : e = 0
  · subst he
    rw [if_neg (by decide)]
    rcases take_inv (n := n) hb hbl hn hp with ⟨v, h1, h2', h3, h4⟩ | h
    · rw [h3]
      exact ⟨v, 0, _, rfl, h1, ⟨pos + n, rfl, h2', fun h => absurd rfl h, fun _ => .inl rfl, fun _ => ⟨rfl, by rw [bitsOf_length], h4⟩⟩, fun h => absurd rfl h⟩
    · rw [h]
      exact ⟨0, 11, _, rfl, h2, ⟨pos, rfl, hp, fun h => absurd rfl h, fun _ => .inr (.inr (.inl rfl)), fun h => (nomatch h)⟩, fun _ => rfl⟩
  · rw [if_pos (by simpa using he)]
    exact ⟨0, e, _, rfl, h2, ⟨pos, rfl, hp, fun _ => rfl, fun h => absurd h he, fun h => absurd h he⟩, fun _ => rfl⟩
theorem rraw_inv {n : Nat} {e : Int} (hb : Bytes8 b) (hbl : b.length < 2 ^ 20) (hn : n ≤ 48) (hp : pos ≤ 8 * b.length) :
    ∃ (x e' p' : Int), rice_reader_take_x2 e (n : Int) ⟨⟨(pos : Int)⟩, b⟩ = some (x, e', p') ∧ Step b pos e (escBits n x) e' p' ∧ (e' = 0 → EscOk n x) := by
  unfold rice_reader_take_x2 rice_read_c1
  by_cases he : e = 0
  · subst he
    rw [if_neg (by decide)]
    rcases signed_inv (n := n) hb hbl hn hp with ⟨v, h1, h2', h3, h4⟩ | h
    · rw [h3]
      exact ⟨v, 0, _, rfl, ⟨pos + n, rfl, h2', fun h => absurd rfl h, fun _ => .inl rfl, fun _ => ⟨rfl, by rw [escBits_length], h4⟩⟩, fun _ => h1⟩
    · rw [h]
      exact ⟨0, 11, _, rfl, ⟨pos, rfl, hp, fun h => absurd rfl h, fun _ => .inr (.inr (.inl rfl)), fun h => (nomatch h)⟩, fun h => (nomatch h)⟩
  · rw [if_pos (by simpa using he)]
    exact ⟨0, e, _, rfl, ⟨pos, rfl, hp, fun _ => rfl, fun h => absurd h he, fun h => absurd h he⟩, fun h => absurd h he⟩
theorem unfold_inv {n : Nat} (hn : n < 9223372036854775807) : ∃ x : Int, rice_unfold (n : Int) = some x ∧ foldN x = n ∧ -4611686018427387905 < x ∧ x < 4611686018427387905 := by
  unfold rice_unfold
  rw [and_one]
  by_cases h : n % 2 = 1
  · rw [if_pos (by rw [beq_iff_eq]; omega), W_id (x := (n : Int) + 1) (by omega) (by omega), W_id (x := 0 - ((n : Int) + 1)) (by omega) (by omega)]
    have e : (0 - ((n : Int) + 1)).tdiv 2 = -(((n + 1) / 2 : Nat) : Int) := by
      rw [show (0 - ((n : Int) + 1)) = -(((n + 1 : Nat)) : Int) by omega, Int.neg_tdiv]
      rfl
    rw [e, W_id (by omega) (by omega)]
    refine ⟨_, rfl, ?_, by omega, by omega⟩
    unfold foldN
    rw [if_pos (by omega)]
    omega
  · rw [if_neg (by rw [beq_iff_eq]; omega)]
    have e : (n : Int).tdiv 2 = ((n / 2 : Nat) : Int) := rfl
    rw [e, W_id (by omega) (by omega)]
    refine ⟨_, rfl, ?_, by omega, by omega⟩
    unfold foldN
    rw [if_neg (by omega)]
    omega
theorem rcoded_inv {k : Nat} {e : Int} (hb : Bytes8 b) (hbl : b.length < 2 ^ 20) (hk : k ≤ 30) (hp : pos ≤ 8 * b.length) :
    ∃ (x e' p' : Int), rice_reader_coded (k : Int) e ⟨⟨(pos : Int)⟩, b⟩ = some (x, e', p') ∧ Step b pos e (codeBits k x) e' p' ∧ (e' = 0 → InR x ∧ foldN x / 2 ^ k ≤ 65536) := by
  have hu : ∃ (high : Nat) (e1 p1 : Int), rice_reader_take_x3 e ⟨⟨(pos : Int)⟩, b⟩ = some ((high : Int), e1, p1) ∧ high ≤ 8 * b.length ∧ Step b pos e (List.replicate high false ++ [true]) e1 p1 := by
    unfold rice_reader_take_x3
    by_cases he : e = 0
    · subst he
      rw [if_neg (by decide)]
      rcases unary_inv hb hbl hp with ⟨n, g1, g2, g3⟩ | g
      · rw [g2]
        exact ⟨n, 0, _, rfl, by omega, ⟨pos + n + 1, rfl, g1, fun h => absurd rfl h, fun _ => .inl rfl, fun _ => ⟨rfl, by simp; omega, g3⟩⟩⟩
      · rw [g]
        exact ⟨0, 11, _, rfl, by omega, ⟨pos, rfl, hp, fun h => absurd rfl h, fun _ => .inr (.inr (.inl rfl)), fun h => (nomatch h)⟩⟩
    · rw [if_pos (by simpa using he)]
      exact ⟨0, e, _, rfl, by omega, ⟨pos, rfl, hp, fun _ => rfl, fun h => absurd h he, fun h => absurd h he⟩⟩
  obtain ⟨high, e1, p1, h1, h2, h3⟩ := hu
  have h3' := h3
  obtain ⟨q1, rfl, a1, _⟩ := h3
  obtain ⟨low, e2, p2, g1, g2, g3, g4⟩ := rnum_inv (n := k) (e := e1) hb hbl (by omega) a1
  have hst := h3'.trans (y := bitsOf k low) (fun q hq => by
    obtain rfl : q1 = q := by omega
    exact g3)
  have hp2 : (2 : Nat) ^ k ≤ 2 ^ 30 := pow_le hk
  have hm : high * 2 ^ k ≤ 8388608 * 2 ^ 30 := Nat.mul_le_mul (by omega) hp2
  have eor : arD .or .i64 (shD .shl .i64 (high : Int) (k : Int)) (low : Int) = ((high * 2 ^ k + low : Nat) : Int) := by
    rw [shl_nat (by omega) (by omega), or_nat (by omega) (by omega)]
    have := or_add (a := high) (x := low) (s := 0) (k := k) g2
    simp only [Nat.add_zero, Nat.pow_zero, Nat.mul_one] at this
    rw [this]
  obtain ⟨x, u1, u2, u3, u4⟩ := unfold_inv (n := high * 2 ^ k + low) (by omega)
  obtain ⟨f, hf⟩ := fold_flag x
  unfold rice_reader_coded
  rw [h1]
  simp only [Option.bind_some]
  rw [need_ok (by simp), g1]
  simp only [Option.bind_some]
  rw [eor, u1]
  simp only [Option.bind_some, hf]
  have hp0 : 0 < (2 : Nat) ^ k := Nat.pow_pos (by omega)
  have hdiv : foldN x / 2 ^ k = high := by
    rw [u2, Nat.add_comm, Nat.add_mul_div_right _ _ hp0, Nat.div_eq_of_lt g2, Nat.zero_add]
  have hmod : foldN x % 2 ^ k = low := by
    rw [u2, Nat.add_comm, Nat.add_mul_mod_self_right, Nat.mod_eq_of_lt g2]
  have hbits : List.replicate high false ++ [true] ++ bitsOf k low = codeBits k x := by
    unfold codeBits
    rw [hdiv, hmod]
  rw [hbits] at hst
  rw [ite_or, ite_and]
  unfold rice_reader_coded_K1
  by_cases hc : (¬ InR x ∨ high > 65536) ∧ e2 = 0
  · rw [if_pos (by
      rw [Bool.and_eq_true, Bool.or_eq_true, beq_iff_eq, decide_eq_true_eq, Bool.not_eq_true', Bool.and_eq_false_iff]
      refine ⟨?_, hc.2⟩
      rcases hc.1 with h | h
      · left
        by_cases h1 : -2147483648 < x
        · exact .inr (decide_eq_false fun h2 => h ⟨h1, h2⟩)
        · exact .inl (decide_eq_false h1)
      · exact .inr (by omega))]
    refine ⟨x, 10, _, rfl, hst.wrong (fun h => absurd hc.2 h) (fun _ => .inr (.inl rfl)), fun h => (nomatch h)⟩
  · rw [if_neg (by
      rw [Bool.and_eq_true, Bool.or_eq_true, beq_iff_eq, decide_eq_true_eq, Bool.not_eq_true', Bool.and_eq_false_iff]
      rintro ⟨h1, h2⟩
      refine hc ⟨?_, h2⟩
      rcases h1 with (h | h) | h
      · left; intro hin; rw [decide_eq_true hin.1] at h; cases h
      · left; intro hin; rw [decide_eq_true hin.2] at h; cases h
      · right; omega)]
    refine ⟨x, e2, _, rfl, hst, fun he => ?_⟩
    rw [hdiv]
    constructor
    · exact Classical.byContradiction fun h => hc ⟨.inl h, he⟩
    · have : ¬ high > 65536 := fun h => hc ⟨.inr h, he⟩
      omega
end
end Go.Vg

namespace Go.Vg

theorem foldR_idx {E X R A : Type} {step : E → X → Option (X ⊕ R)} {done : X → Option A} {ret : R → Option A} (n : Nat) (f : Nat → E) (I : Nat → X → Prop) (J : R → Prop) (Q : A → Prop) (hd : ∀ x, I n x → ∃ r, done x = some r ∧ Q r) (hr : ∀ q, J q → ∃ r, ret q = some r ∧ Q r)
    (hs : ∀ i x, i < n → I i x → (∃ x', step (f i) x = some (.inl x') ∧ I (i + 1) x') ∨ ∃ q, step (f i) x = some (.inr q) ∧ J q) {x0 : X} (h0 : I 0 x0) : ∃ r, foldR step done ret ((List.range n).map f) x0 = some r ∧ Q r := by
  have key : ∀ k s x, s + k = n → I s x → ∃ r, foldR step done ret ((List.range' s k).map f) x = some r ∧ Q r := by
    intro k
    induction k with
    | zero => intro s x hs' hx; obtain rfl : s = n := by omega
              exact hd x hx
    | succ k ih =>
      intro s x hs' hx
      rw [List.range'_succ, List.map_cons, foldR]
      rcases hs s x (by omega) hx with ⟨x', h1, h2⟩ | ⟨q, h1, h2⟩
      · rw [h1]; exact ih (s + 1) x' (by omega) h2
      · rw [h1]; exact hr q h2
  rw [List.range_eq_range']
  exact key n 0 x0 (by omega) h0
def Code (e : Int) : Prop := e = 10 ∨ e = 11 ∨ e = 12 ∨ e = 13
section
variable {b : List Int} {pos : Nat}
theorem Step.code {e' p' : Int} {x : List Bool} (h : Step b pos 0 x e' p') : e' = 0 ∨ Code e' := by
  obtain ⟨_, _, _, _, h3, _⟩ := h
  exact h3 rfl
def bitsF (par n : Int) (v : Int) : List Bool := if par = -1 then escBits n.toNat v else codeBits par.toNat v
def okF (par n : Int) (v : Int) : Prop := if par = -1 then EscOk n.toNat v else InR v ∧ foldN v / 2 ^ par.toNat ≤ 65536
/-- The numbers of a part, read. -/
theorem loop_inv {m : Nat} {par n e2 : Int} {q2 N : Nat} {y3 : bits_Reader} {p7 : Int × Arr2 Int} {j13 : List Int × List Int} {l : List Int} (hm : m ≤ 1) (hb : Bytes8 b) (hbl : b.length < 2 ^ 20) (hy : y3.m_b = b) (hq : q2 ≤ 8 * b.length) (hpar : ParOk m par n) (hN : 1 ≤ N) (hN2 : N ≤ 65535) (hlen : W (p7.2.a1 - p7.2.a0) = (N : Int)) (hl : l.length ≤ 65535) (he2 : e2 = 0 ∨ Code e2) :
    ∃ r, iter (rice_read_L2 y3 p7 (par, e2, (q2 : Int), n) j13) (0, l, e2, (q2 : Int)) = some r ∧
      ((∃ xs p', r = .inl (0, p', l ++ xs, j13.2, j13.1) ∧ xs.length = N ∧ Step b q2 e2 (xs.flatMap (bitsF par n)) 0 p' ∧ ∀ v, v ∈ xs → okF par n v) ∨ ∃ e' l' a c, ∃ p' : Nat, r = .inr (e', (p' : Int), l', a, c) ∧ Code e' ∧ p' ≤ 8 * b.length) := by
  have hE := escN_le hm
  have hrd : ∀ (q : Nat) (e : Int), q ≤ 8 * b.length → ∃ (x e' p' : Int), (if par = -1 then rice_reader_take_x2 e n ⟨⟨(q : Int)⟩, b⟩ else rice_reader_coded par e ⟨⟨(q : Int)⟩, b⟩) = some (x, e', p') ∧ Step b q e (bitsF par n x) e' p' ∧ (e' = 0 → okF par n x) := by
    intro q e hq
    rcases hpar with ⟨rfl, n0, n31⟩ | ⟨p0, p1, rfl⟩
    · obtain ⟨k, rfl⟩ := Int.eq_ofNat_of_zero_le n0
      rw [if_pos rfl]
      obtain ⟨x, e', p', h1, h2, h3⟩ := rraw_inv (n := k) (e := e) hb hbl (by omega) hq
      exact ⟨x, e', p', h1, by unfold bitsF; rw [if_pos rfl]; exact h2, fun h => by unfold okF; rw [if_pos rfl]; exact h3 h⟩
    · obtain ⟨k, rfl⟩ := Int.eq_ofNat_of_zero_le p0
      rw [if_neg (by omega)]
      obtain ⟨x, e', p', h1, h2, h3⟩ := rcoded_inv (k := k) (e := e) hb hbl (by omega) hq
      exact ⟨x, e', p', h1, by unfold bitsF; rw [if_neg (by omega)]; exact h2, fun h => by unfold okF; rw [if_neg (by omega)]; exact h3 h⟩
  refine iter_for (step := rice_read_L2 y3 p7 (par, e2, (q2 : Int), n) j13) N (fun i a => a.1 = (i : Int) ∧ ∃ xs, a.2.1 = l ++ xs ∧ xs.length = i ∧ Step b q2 e2 (xs.flatMap (bitsF par n)) a.2.2.1 a.2.2.2 ∧ (1 ≤ i → a.2.2.1 = 0) ∧ (a.2.2.1 = 0 → ∀ v, v ∈ xs → okF par n v)) _ (by omega) (fun i a hi ha => ?_) (fun a ha => ?_) (a0 := (0, l, e2, (q2 : Int))) ⟨rfl, [], by simp, rfl, Step.refl hq e2 (by rcases he2 with h | h | h | h | h <;> simp [h]), fun h => by omega, fun _ v hv => by cases hv⟩
  · obtain ⟨i1, xs, i2, i3, i4, i5, i6⟩ := ha
    have i4' := i4
    obtain ⟨qa, hqa, d1, _⟩ := i4
    obtain ⟨x, e', p', g1, g2, g3⟩ := hrd qa a.2.2.1 d1
    have hst := i4'.trans (y := bitsF par n x) (fun q hq => by
      obtain rfl : qa = q := by omega
      exact g2)
    have hfm : (xs ++ [x]).flatMap (bitsF par n) = xs.flatMap (bitsF par n) ++ bitsF par n x := by simp
    have hcode : e' ≠ 0 → Code e' := fun h => by
      obtain ⟨_, _, _, b2, b3, _⟩ := hst
      by_cases h0 : e2 = 0
      · rcases b3 h0 with h' | h'
        · exact absurd h' h
        · exact h'
      · rw [b2 h0]
        rcases he2 with h' | h'
        · exact absurd h' h0
        · exact h'
    have hp' : ∃ q' : Nat, p' = (q' : Int) ∧ q' ≤ 8 * b.length := by
      obtain ⟨q', h1, h2, _⟩ := g2
      exact ⟨q', h1, h2⟩
    have hK4 : rice_read_K4 j13 a (l ++ xs ++ [x], e', p') = (if e' ≠ 0 then Option.map .inr (some (.inr (e', p', l ++ xs ++ [x], j13.2, j13.1))) else some (.inl (W (a.1 + 1), l ++ xs ++ [x], e', p'))) := by
      unfold rice_read_K4
      by_cases h : e' = 0
      · rw [if_neg (by simpa using h), if_neg (by simpa using h)]
      · rw [if_pos (by simpa using h), if_pos h]
    have hstep : rice_read_L2 y3 p7 (par, e2, (q2 : Int), n) j13 a = rice_read_K4 j13 a (l ++ xs ++ [x], e', p') := by
      unfold rice_read_L2
      rw [i1, hlen, if_pos (by simpa using hi), hy, hqa, i2]
      by_cases hp : par = -1
      · rw [if_pos hp] at g1
        rw [if_pos (by simpa using hp)]
        simp only [g1, Option.bind_some]
        rw [app_ok (by simp; omega)]
        rfl
      · rw [if_neg hp] at g1
        rw [if_neg (by simpa using hp)]
        simp only [g1, Option.bind_some]
        rw [app_ok (by simp; omega)]
        rfl
    rw [hstep, hK4]
    by_cases h : e' = 0
    · left
      rw [if_neg (by simpa using h), i1]
      refine ⟨_, rfl, W_succ (by omega), xs ++ [x], by simp, by simp; omega, by rw [hfm]; exact hst, fun _ => h, fun _ v hv => ?_⟩
      rcases List.mem_append.1 hv with hv | hv
      · exact i6 (g2.zero h) v hv
      · rw [List.mem_singleton] at hv; subst hv; exact g3 h
    · right
      rw [if_pos h]
      obtain ⟨q', rfl, hq'⟩ := hp'
      exact ⟨_, rfl, .inr ⟨e', _, _, _, q', rfl, hcode h, hq'⟩⟩
  · obtain ⟨i1, xs, i2, i3, i4, i5, i6⟩ := ha
    have he := i5 hN
    unfold rice_read_L2
    rw [i1, hlen, if_neg (by simp), he, i2]
    rw [he] at i4
    exact ⟨_, rfl, .inl ⟨xs, _, rfl, i3, i4, i6 he⟩⟩
/-- A whole part, read. -/
theorem part_inv {m : Nat} {q N : Nat} {y3 : bits_Reader} {r1 : Int × Int × Int} {p7 : Int × Arr2 Int} {l prs bts : List Int} (hm : m ≤ 1) (hb : Bytes8 b) (hbl : b.length < 2 ^ 20) (hy : y3.m_b = b) (hr : r1.1 = (m : Int)) (hq : q ≤ 8 * b.length) (hN : 1 ≤ N) (hN2 : N ≤ 65535) (hlen : W (p7.2.a1 - p7.2.a0) = (N : Int)) (hl : l.length ≤ 65535) (h1 : prs.length ≤ 65535) (h2 : bts.length ≤ 65535) :
    ∃ r, rice_read_L1 y3 r1 p7 (0, (q : Int), l, prs, bts) = some r ∧
      ((∃ par n xs p', r = .inl (0, p', l ++ xs, prs ++ [par], bts ++ [n]) ∧ xs.length = N ∧ ParOk m par n ∧ Step b q 0 (partBits m par n xs) 0 p' ∧ ∀ v, v ∈ xs → okF par n v) ∨ ∃ e' l' a c, ∃ p' : Nat, r = .inr (e', (p' : Int), l', a, c) ∧ Code e' ∧ p' ≤ 8 * b.length) := by
  have hE := escN_le hm
  have hEl := escN_lt m
  unfold rice_read_L1
  simp only [lett, hr, w4 hm, hy]
  obtain ⟨v, e1, p1, g1, g2, g3, g4⟩ := rnum_inv (n := 4 + m) (e := 0) hb hbl (by omega) hq
  rw [g1]
  simp only [Option.bind_some]
  rw [escape_spec hm]
  simp only [Option.bind_some]
  have g3' := g3
  obtain ⟨q1, rfl, a1, _, a3, _⟩ := g3
  have fin : ∀ (par n e2 : Int) (q2 : Nat) (hd : List Bool), ParOk m par n → q2 ≤ 8 * b.length → Step b q 0 hd e2 (q2 : Int) → (e2 = 0 → ∀ xs, hd ++ xs.flatMap (bitsF par n) = partBits m par n xs) → ∃ r, rice_read_K2 y3 p7 (0, (q : Int), l, prs, bts) (par, e2, (q2 : Int), n) = some r ∧
      ((∃ par n xs p', r = .inl (0, p', l ++ xs, prs ++ [par], bts ++ [n]) ∧ xs.length = N ∧ ParOk m par n ∧ Step b q 0 (partBits m par n xs) 0 p' ∧ ∀ v, v ∈ xs → okF par n v) ∨ ∃ e' l' a c, ∃ p' : Nat, r = .inr (e', (p' : Int), l', a, c) ∧ Code e' ∧ p' ≤ 8 * b.length) := by
    intro par n e2 q2 hd hpo hq2 hst hbits
    unfold rice_read_K2 rice_read_K3
    simp only
    rw [app_ok (by simp; omega), app_ok (by simp; omega)]
    simp only [Option.bind_some]
    obtain ⟨r, r1, r2⟩ := loop_inv (l := l) (j13 := (bts ++ [n], prs ++ [par])) (e2 := e2) hm hb hbl hy hq2 hpo hN hN2 hlen hl hst.code
    refine ⟨r, r1, ?_⟩
    rcases r2 with ⟨xs, p', rfl, x1, x2, x3⟩ | h
    · left
      have hst2 := hst.trans (y := xs.flatMap (bitsF par n)) (fun q' hq' => by
        obtain rfl : q2 = q' := by omega
        exact x2)
      have he2 := x2.zero rfl
      rw [hbits he2 xs] at hst2
      exact ⟨par, n, xs, p', rfl, x1, hpo, hst2, x3⟩
    · exact .inr h
  by_cases hv : v = escN m
  · rw [if_pos (by rw [beq_iff_eq]; omega)]
    obtain ⟨v5, e2, p2, k1, k2, k3, k4⟩ := rnum_inv (n := 5) (e := e1) hb hbl (by omega) a1
    have k1' : rice_reader_number 5 e1 ⟨⟨(q1 : Int)⟩, b⟩ = _ := k1
    rw [k1']
    simp only [Option.bind_some]
    have hst := g3'.trans (y := bitsOf 5 v5) (fun q' hq' => by
      obtain rfl : q1 = q' := by omega
      exact k3)
    obtain ⟨q2, rfl, c1, _⟩ := k3
    have hv5 : v5 < 32 := by simpa using k2
    refine fin (-1) (v5 : Int) e2 q2 _ (.inl ⟨rfl, by omega, by omega⟩) c1 hst (fun _ xs => ?_)
    unfold partBits bitsF
    rw [if_pos rfl, hv, Int.toNat_natCast, List.append_assoc]
    rfl
  · rw [if_neg (by rw [beq_iff_eq]; omega)]
    have hesc : v < escN m := by unfold escN at *; omega
    refine fin (v : Int) 0 e1 q1 _ (.inr ⟨by omega, by omega, rfl⟩) a1 g3' (fun _ xs => ?_)
    have hF : bitsF (v : Int) 0 = codeBits v := by
      funext x
      unfold bitsF
      rw [if_neg (by omega), Int.toNat_natCast]
    unfold partBits
    rw [hF, if_neg (by omega), Int.toNat_natCast]
end
end Go.Vg

namespace Go.Vg

theorem okF_part {m : Nat} {par n : Int} {xs : List Int} (hm : m ≤ 1) (hp : ParOk m par n) (h : ∀ v, v ∈ xs → okF par n v) : PartOk m par n xs ∧ ∀ v, v ∈ xs → OneOk par n v := by
  rcases hp with ⟨rfl, n0, n31⟩ | ⟨p0, p1, rfl⟩
  · have h' : ∀ v, v ∈ xs → EscOk n.toNat v := fun v hv => by
      have := h v hv
      unfold okF at this
      rw [if_pos rfl] at this
      exact this
    refine ⟨.inl ⟨rfl, n0, n31, h'⟩, fun v hv => ?_⟩
    have he := h' v hv
    have hr : -2147483648 < v ∧ v < 2147483648 := by
      rcases he with ⟨_, rfl⟩ | ⟨_, _, h3, h4⟩
      · decide
      · have e : (2 : Nat) ^ (n.toNat - 1) ≤ 2 ^ 30 := pow_le (by omega)
        have ec := pow_cast (n.toNat - 1)
        omega
    obtain ⟨w, w1, w2, w3⟩ := width_min hr.1 hr.2
    have := (w3 n.toNat (by omega)).1 he
    exact ⟨hr.1, hr.2, fun _ => ⟨w, w1, by omega⟩, fun h => by omega⟩
  · have h' : ∀ v, v ∈ xs → InR v ∧ foldN v / 2 ^ par.toNat ≤ 65536 := fun v hv => by
      have := h v hv
      unfold okF at this
      rw [if_neg (by omega)] at this
      exact this
    exact ⟨.inr ⟨p0, p1, rfl, fun v hv => ⟨(h' v hv).1.1, (h' v hv).1.2, (h' v hv).2⟩⟩, fun v hv => ⟨(h' v hv).1.1, (h' v hv).1.2, fun h => by omega, fun _ => (h' v hv).2⟩⟩

theorem rcheck_conv {p : rice_Plan} {m : Nat} {b s : Int} (hm : m ≤ 1) (hM : p.Method = (m : Int)) (hh : HeadOk p.Method p.Order b s) (h1 : p.Params.length = 2 ^ p.Order.toNat) (h2 : p.Bits.length = 2 ^ p.Order.toNat)
    (hp : ∀ i : Nat, i < p.Params.length → ∃ par n, idx p.Params (i : Int) = some par ∧ idx p.Bits (i : Int) = some n ∧ ParOk m par n) : rice_Check p b s = some 0 := by
  unfold rice_Check
  obtain ⟨c0, h0, h0'⟩ := head_spec p.Method p.Order b s
  rw [h0, h0'.2 hh]
  simp only [Option.bind_some]
  obtain ⟨o, ho⟩ := Int.eq_ofNat_of_zero_le hh.o1
  have ho2 := hh.o2
  have hpl : (2 : Nat) ^ o ≤ 2 ^ 15 := pow_le (by omega)
  have hg : decide (p.Order ≥ 0) = true := by rw [ho]; simp
  rw [ho, Int.toNat_natCast] at h1 h2
  rw [if_neg (by decide), need_ok hg, need_ok hg, ho, pow_shl (by omega)]
  unfold rice_Check_K1
  rw [if_neg (by rw [h1]; simp), if_neg (by rw [h2]; simp)]
  refine Exists.elim (iter_for (step := rice_Check_L1 p) p.Params.length (fun i a => a = (i : Int)) (fun r => r = 0) (by omega) (fun i a hi ha => ?_) (fun a ha => ?_) (a0 := 0) rfl) (fun r hr => by rw [hr.1, hr.2])
  · subst ha
    left
    obtain ⟨par, n, g1, g2, g3⟩ := hp i hi
    unfold rice_Check_L1 rice_Check_K3
    rw [if_pos (by simpa using hi), g1, g2, hM, escape_spec hm]
    simp only [Option.bind_some]
    rcases g3 with ⟨rfl, n0, n31⟩ | ⟨p0, p1, rfl⟩
    · rw [if_pos (by rfl), if_pos (by simpa using n0), if_pos (by simpa using n31)]
      exact ⟨_, rfl, W_succ (by omega)⟩
    · rw [if_neg (by rw [beq_iff_eq]; omega), if_pos (by simpa using p0), if_pos (by simpa using p1), if_pos (by rfl)]
      exact ⟨_, rfl, W_succ (by omega)⟩
  · subst ha
    unfold rice_Check_L1 rice_Check_K2
    rw [if_neg (by simp)]
    exact ⟨_, rfl, rfl⟩
section
variable {b : List Int} {pos : Nat}
/-- What rice.Read tells where there was no error. -/
structure RiceIs (b : List Int) (pos : Nat) (block skip : Nat) (d : List Int) (p : rice_Plan) (p' : Int) : Prop where
  len : d.length + skip = block
  pars : p.Params.length ≤ 2 ^ 15
  size : ∃ z, rice_Size p (skip : Int) d = some (z, 0)
  step : Step b pos 0 (planBits p d skip) 0 p'
theorem rread_inv {block skip : Nat} (h1 : 1 ≤ block) (h2 : block ≤ 65535) (hs : skip ≤ 32) (hb : Bytes8 b) (hbl : b.length < 2 ^ 20) (hp : pos ≤ 8 * b.length) :
    ∃ (d : List Int) (m o : Int) (ps bs : List Int) (c e : Int) (p' : Nat), rice_read (block : Int) (skip : Int) 0 ⟨⟨(pos : Int)⟩, b⟩ = some (d, m, o, ps, bs, c, e, (p' : Int)) ∧ p' ≤ 8 * b.length ∧ (c = 0 ∨ Code c) ∧ (c = 0 → RiceIs b pos block skip d ⟨m, o, ps, bs⟩ (p' : Int)) := by
  unfold rice_read
  obtain ⟨m, e1, p1, g1, g2, g3, g4⟩ := rnum_inv (n := 2) (e := 0) hb hbl (by omega) hp
  have g1' : rice_reader_number 2 0 ⟨⟨(pos : Int)⟩, b⟩ = _ := g1
  rw [g1']
  simp only [Option.bind_some, ite_and]
  have hm4 : m < 4 := by simpa using g2
  have g3c := g3.code
  have g3' := g3
  obtain ⟨q1, rfl, a1, _⟩ := g3
  by_cases hc : e1 = 0 ∧ m > 1
  · rw [if_pos (by rw [Bool.and_eq_true, beq_iff_eq, decide_eq_true_eq]; omega)]
    exact ⟨_, _, _, _, _, 13, _, q1, rfl, a1, .inr (.inr (.inr (.inr rfl))), fun h => (nomatch h)⟩
  rw [if_neg (by rw [Bool.and_eq_true, beq_iff_eq, decide_eq_true_eq]; omega)]
  obtain ⟨o, e2, p2, k1, k2, k3, k4⟩ := rnum_inv (n := 4) (e := e1) hb hbl (by omega) a1
  have k1' : rice_reader_number 4 e1 ⟨⟨(q1 : Int)⟩, b⟩ = _ := k1
  rw [k1']
  simp only [Option.bind_some]
  have ho16 : o < 16 := by simpa using k2
  have hst := g3'.trans (y := bitsOf 4 o) (fun q hq => by
    obtain rfl : q1 = q := by omega
    exact k3)
  have k3z := fun h => k3.zero h
  obtain ⟨q2, rfl, c1, _⟩ := k3
  rcases (Decidable.em (e2 = 0)).symm with he2 | he2
  · rw [if_pos (by simpa using he2)]
    exact ⟨_, _, _, _, _, e2, _, q2, rfl, c1, hst.code, fun h => absurd h he2⟩
  rw [if_neg (by simpa using he2)]
  have he1 := k3z he2
  have hm1 : m ≤ 1 := by
    have : ¬ m > 1 := fun h => hc ⟨he1, h⟩
    omega
  subst he2
  obtain ⟨ch, h0, h0'⟩ := head_spec (m : Int) (o : Int) (block : Int) (skip : Int)
  rw [h0]
  simp only [Option.bind_some]
  rcases (Decidable.em (ch = 0)).symm with hch | hch
  · rw [if_pos (by simpa using hch)]
    refine ⟨_, _, _, _, _, ch, _, q2, rfl, c1, .inr ?_, fun h => absurd h hch⟩
    -- what is wrong with a head that is no argument's fault
    unfold rice_head at h0
    simp only [ite_or] at h0
    rw [if_neg (by simp only [Bool.or_eq_true, decide_eq_true_eq]; omega), if_neg (by simp only [Bool.or_eq_true, decide_eq_true_eq]; omega), need_ok (by simp)] at h0
    split at h0
    · cases h0; exact .inr (.inr (.inl rfl))
    · rw [need_ok (by simp)] at h0
      split at h0
      · cases h0; exact .inr (.inr (.inl rfl))
      · cases h0; exact absurd rfl hch
  rw [if_neg (by simpa using hch)]
  have hh := h0'.1 hch
  have hdv := hh.dv
  have hmo := hh.mo
  simp only [Int.toNat_natCast] at hdv hmo
  simp only [rice_parts, Option.bind_some]
  unfold partsF
  rw [if_pos ⟨by omega, by omega, by omega, by omega, by omega, by omega⟩]
  simp only [Option.bind_some, Int.toNat_natCast]
  have hpo : (2 : Nat) ^ o ≤ 2 ^ 15 := pow_le (by omega)
  have hpo0 : 0 < (2 : Nat) ^ o := Nat.pow_pos (by omega)
  have hblk : 2 ^ o * (block / 2 ^ o) = block := by have := Nat.div_add_mod block (2 ^ o); omega
  generalize hsz : block / 2 ^ o = s at *
  have hkle : ∀ k, k ≤ 2 ^ o → k * s ≤ block := fun k hk => by
    have := Nat.mul_le_mul_right s hk
    omega
  unfold partsN
  rw [hsz]
  refine Exists.elim (foldR_idx (step := rice_read_L1 ⟨⟨(pos : Int)⟩, b⟩ ((m : Int), e1, (q1 : Int))) (done := rice_read_K5 ((m : Int), e1, (q1 : Int)) ((o : Int), 0, (q2 : Int))) (ret := rice_read_K6 ((m : Int), e1, (q1 : Int)) ((o : Int), 0, (q2 : Int))) (2 ^ o) (fun (i : Nat) => (Int.ofNat i, (⟨max 0 (Int.ofNat (i * s) - Int.ofNat skip), Int.ofNat ((i + 1) * s) - Int.ofNat skip⟩ : Arr2 Int)))
    (fun k x => x.1 = 0 ∧ ∃ qs : List Part, qs.map Part.e = (List.range k).map (fun (i : Nat) => (Int.ofNat i, (⟨max 0 (Int.ofNat (i * s) - Int.ofNat skip), Int.ofNat ((i + 1) * s) - Int.ofNat skip⟩ : Arr2 Int))) ∧ x.2.2.1 = qs.flatMap Part.xs ∧ x.2.2.1.length = k * s - skip ∧ x.2.2.2.1 = qs.map Part.par ∧ x.2.2.2.2 = qs.map Part.n ∧ (∀ i q, qs[i]? = some q → ParOk m q.par q.n ∧ (∀ v, v ∈ q.xs → okF q.par q.n v) ∧ q.xs.length = ((i + 1) * s - skip) - (i * s - skip)) ∧ Step b pos 0 (bitsOf 2 m ++ bitsOf 4 o ++ qs.flatMap (Part.bits m)) 0 x.2.1)
    (fun q => Code q.1 ∧ ∃ p' : Nat, q.2.1 = (p' : Int) ∧ p' ≤ 8 * b.length)
    (fun r => ∃ p' : Nat, r.2.2.2.2.2.2.2 = (p' : Int) ∧ p' ≤ 8 * b.length ∧ (r.2.2.2.2.2.1 = 0 ∨ Code r.2.2.2.2.2.1) ∧ (r.2.2.2.2.2.1 = 0 → RiceIs b pos block skip r.1 ⟨r.2.1, r.2.2.1, r.2.2.2.1, r.2.2.2.2.1⟩ (p' : Int)))
    (fun x hx => ?_) (fun q hq => ?_) (fun k x hk hx => ?_) (x0 := (0, (q2 : Int), [], [], [])) ⟨rfl, [], rfl, rfl, by simp, rfl, rfl, fun i q h => by simp at h, by simpa using hst⟩) (fun r hr => ?_)
  · obtain ⟨x1, qs, x2, x3, x4, x5, x6, x7, x8⟩ := hx
    refine ⟨_, rfl, ?_⟩
    have x8' := x8
    obtain ⟨qe, hqe, d1, _⟩ := x8
    refine ⟨qe, hqe, d1, .inl x1, fun _ => ?_⟩
    have hlenqs : qs.length = 2 ^ o := by
      have := congrArg List.length x2
      simpa using this
    have hsb : s ≤ block := by have := hkle 1 hpo0; omega
    have hdlen : x.2.2.1.length + skip = block := by rw [x4, hblk]; omega
    -- where each part stands
    have hflat : ∀ k, k ≤ 2 ^ o → ((qs.take k).flatMap Part.xs).length = k * s - skip := by
      intro k
      induction k with
      | zero => intro _; simp
      | succ k ih =>
        intro hk
        have hkl : k < qs.length := by omega
        have := ih (by omega)
        rw [List.take_succ_eq_append_getElem hkl, List.flatMap_append, List.length_append, this]
        have h3 := (x7 k _ (List.getElem?_eq_getElem hkl)).2.2
        simp only [List.flatMap_cons, List.flatMap_nil, List.append_nil]
        have : k * s ≤ (k + 1) * s := Nat.mul_le_mul_right _ (by omega)
        omega
    have hxs : ∀ (i : Nat) q, qs[i]? = some q → q.xs = partXs x.2.2.1 s skip i := by
      intro i q hq
      have hil : i < qs.length := (List.getElem?_eq_some_iff.1 hq).1
      have hlen3 := (x7 i q hq).2.2
      have hsplit : qs = qs.take i ++ q :: qs.drop (i + 1) := by
        have e : qs[i] = q := by rw [List.getElem?_eq_getElem hil] at hq; exact Option.some.inj hq
        rw [← e, ← List.drop_eq_getElem_cons hil, List.take_append_drop]
      have hfl : x.2.2.1 = (qs.take i).flatMap Part.xs ++ (q.xs ++ (qs.drop (i + 1)).flatMap Part.xs) := by
        rw [x3]
        have := congrArg (List.flatMap Part.xs) hsplit
        rw [List.flatMap_append, List.flatMap_cons] at this
        exact this
      unfold partXs
      rw [hfl, List.drop_left' (hflat i (by omega)), List.take_left' hlen3]
    have hpe : ∀ (i : Nat) q, qs[i]? = some q → q.e = (Int.ofNat i, (⟨max 0 (Int.ofNat (i * s) - Int.ofNat skip), Int.ofNat ((i + 1) * s) - Int.ofNat skip⟩ : Arr2 Int)) := by
      intro i q hq
      have hil : i < qs.length := (List.getElem?_eq_some_iff.1 hq).1
      have := congrArg (·[i]?) x2
      simp only [List.getElem?_map, hq, List.getElem?_range (show i < 2 ^ o by omega), Option.map_some] at this
      exact Option.some.inj this
    have hgp : ∀ (i : Nat) q, qs[i]? = some q → idx x.2.2.2.1 (i : Int) = some q.par ∧ idx x.2.2.2.2 (i : Int) = some q.n := by
      intro i q hq
      exact ⟨idx_ok (by rw [x5, List.getElem?_map, hq]; rfl), idx_ok (by rw [x6, List.getElem?_map, hq]; rfl)⟩
    have hplan : planParts ⟨(m : Int), (o : Int), x.2.2.2.1, x.2.2.2.2⟩ x.2.2.1 skip = qs := by
      unfold planParts
      simp only [Int.toNat_natCast]
      rw [hdlen, hsz]
      apply List.ext_getElem?
      intro i
      rw [List.getElem?_map]
      by_cases hi : i < 2 ^ o
      · obtain ⟨q, hq⟩ : ∃ q, qs[i]? = some q := ⟨qs[i]'(by omega), List.getElem?_eq_getElem (by omega)⟩
        obtain ⟨y1, y2⟩ := hgp i q hq
        rw [List.getElem?_range hi, hq, Option.map_some, getD_eq y1, getD_eq y2, ← hxs i q hq, ← hpe i q hq]
      · rw [List.getElem?_eq_none (by simp; omega), List.getElem?_eq_none (by omega)]
        rfl
    have hpar : ∀ i : Nat, i < x.2.2.2.1.length → ∃ par n, idx x.2.2.2.1 (i : Int) = some par ∧ idx x.2.2.2.2 (i : Int) = some n ∧ ParOk m par n := by
      intro i hi
      have hil : i < qs.length := by rw [x5, List.length_map] at hi; exact hi
      have hq := List.getElem?_eq_getElem hil
      exact ⟨_, _, (hgp i _ hq).1, (hgp i _ hq).2, (x7 i _ hq).1⟩
    have hl1 : x.2.2.2.1.length = 2 ^ o := by rw [x5, List.length_map, hlenqs]
    have hl2 : x.2.2.2.2.length = 2 ^ o := by rw [x6, List.length_map, hlenqs]
    have hh' : HeadOk (m : Int) (o : Int) ((x.2.2.1.length + skip : Nat) : Int) (skip : Int) := by rw [hdlen]; exact hh
    have hpk : PlanOk ⟨(m : Int), (o : Int), x.2.2.2.1, x.2.2.2.2⟩ ((x.2.2.1.length + skip : Nat) : Int) (skip : Int) :=
      ⟨hh', by show x.2.2.2.1.length = 2 ^ (o : Int).toNat; rw [Int.toNat_natCast]; exact hl1, by show x.2.2.2.2.length = 2 ^ (o : Int).toNat; rw [Int.toNat_natCast]; exact hl2, by show ∀ i : Nat, i < x.2.2.2.1.length → ∃ par n, idx x.2.2.2.1 (i : Int) = some par ∧ idx x.2.2.2.2 (i : Int) = some n ∧ ParOk (m : Int).toNat par n; rw [Int.toNat_natCast]; exact hpar⟩
    have hchk : rice_Check ⟨(m : Int), (o : Int), x.2.2.2.1, x.2.2.2.2⟩ ((x.2.2.1.length + skip : Nat) : Int) (skip : Int) = some 0 :=
      rcheck_conv (p := ⟨(m : Int), (o : Int), x.2.2.2.1, x.2.2.2.2⟩) hm1 rfl hh' (by show x.2.2.2.1.length = 2 ^ (o : Int).toNat; rw [Int.toNat_natCast]; exact hl1) (by show x.2.2.2.2.length = 2 ^ (o : Int).toNat; rw [Int.toNat_natCast]; exact hl2) hpar
    have hqall : ∀ q, q ∈ qs → idx x.2.2.2.1 q.e.1 = some q.par ∧ idx x.2.2.2.2 q.e.1 = some q.n ∧ sub x.2.2.1 q.e.2.a0 q.e.2.a1 = some q.xs ∧ q.xs.length < 2 ^ 20 ∧ PartOk m q.par q.n q.xs ∧ ∀ v, v ∈ q.xs → OneOk q.par q.n v := by
      intro q hq
      obtain ⟨i, hi, rfl⟩ := List.getElem_of_mem hq
      have hqi := List.getElem?_eq_getElem hi
      obtain ⟨y1, y2, y3⟩ := x7 i _ hqi
      have hpo2 := okF_part hm1 y1 y2
      have hsub := (part_sub (d := x.2.2.1) (b := block) (o := o) (skip := skip) (i := i) hdlen hdv (by rw [hsz]; exact hmo) (by omega)).1
      rw [hsz] at hsub
      rw [hpe i _ hqi]
      refine ⟨(hgp i _ hqi).1, (hgp i _ hqi).2, ?_, ?_, hpo2.1, hpo2.2⟩
      · rw [hxs i _ hqi]; exact hsub
      · rw [y3]
        have := hkle (i + 1) (by omega)
        omega
    have hbits : planBits ⟨(m : Int), (o : Int), x.2.2.2.1, x.2.2.2.2⟩ x.2.2.1 skip = bitsOf 2 m ++ bitsOf 4 o ++ qs.flatMap (Part.bits m) := by
      unfold planBits riceBits
      rw [hplan]
      simp only [Int.toNat_natCast, List.append_assoc]
    refine ⟨hdlen, by show x.2.2.2.1.length ≤ _; omega, ?_, by show Step b pos 0 (planBits ⟨(m : Int), (o : Int), x.2.2.2.1, x.2.2.2.2⟩ x.2.2.1 skip) 0 (qe : Int); rw [hbits, ← hqe]; exact x8'⟩
    show ∃ z, rice_Size ⟨(m : Int), (o : Int), x.2.2.2.1, x.2.2.2.2⟩ (skip : Int) x.2.2.1 = some (z, 0)
    have hplen := parts_len hm1 qs (fun q hq => (hqall q hq).2.2.2.2.1)
    rw [← x3] at hplen
    rw [size_unfold hs (by omega) hpk hchk, parts_e ⟨(m : Int), (o : Int), x.2.2.2.1, x.2.2.2.2⟩ x.2.2.1 skip, hplan]
    have := size_fold (y0 := ⟨(m : Int), (o : Int), x.2.2.2.1, x.2.2.2.2⟩) (y2 := x.2.2.1) hm1 rfl qs hqall 6 (by omega)
    have e6 : ((6 : Nat) : Int) = 6 := rfl
    rw [e6] at this
    exact ⟨_, this⟩
  · obtain ⟨j1, p', j2, j3⟩ := hq
    refine ⟨_, rfl, p', j2, j3, .inr j1, fun h => ?_⟩
    have h : q.1 = 0 := h
    unfold Code at j1
    omega
  · obtain ⟨x1, qs, x2, x3, x4, x5, x6, x7, x8⟩ := hx
    have x8' := x8
    obtain ⟨qe, hqe, d1, _⟩ := x8
    have hxe : x = (0, (qe : Int), x.2.2.1, x.2.2.2.1, x.2.2.2.2) := by rw [← x1, ← hqe]
    have hlenqs : qs.length = k := by
      have := congrArg List.length x2
      simpa using this
    have hsucc : (k + 1) * s = k * s + s := Nat.succ_mul ..
    have hk1 := hkle (k + 1) (by omega)
    have hlen : W ((Int.ofNat ((k + 1) * s) - Int.ofNat skip) - max 0 (Int.ofNat (k * s) - Int.ofNat skip)) = ((((k + 1) * s - skip) - (k * s - skip) : Nat) : Int) := by
      simp only [Int.ofNat_eq_natCast]
      generalize (k + 1) * s = A at *
      generalize k * s = B at *
      rw [W_id (by omega) (by omega)]
      omega
    rw [hxe]
    obtain ⟨r, r1, r2⟩ := part_inv (m := m) (q := qe) (N := ((k + 1) * s - skip) - (k * s - skip)) (y3 := ⟨⟨(pos : Int)⟩, b⟩) (r1 := ((m : Int), e1, (q1 : Int))) (p7 := (Int.ofNat k, (⟨max 0 (Int.ofNat (k * s) - Int.ofNat skip), Int.ofNat ((k + 1) * s) - Int.ofNat skip⟩ : Arr2 Int))) (l := x.2.2.1) (prs := x.2.2.2.1) (bts := x.2.2.2.2) hm1 hb hbl rfl rfl d1 (by omega) (by omega) hlen (by rw [x4]; omega) (by rw [x5, List.length_map]; omega) (by rw [x6, List.length_map]; omega)
    rcases r2 with ⟨par, n, xs, p', rfl, z1, z2, z3, z4⟩ | ⟨e', l', a, c, p', rfl, z1, z2⟩
    · left
      refine ⟨_, r1, rfl, qs ++ [⟨(Int.ofNat k, (⟨max 0 (Int.ofNat (k * s) - Int.ofNat skip), Int.ofNat ((k + 1) * s) - Int.ofNat skip⟩ : Arr2 Int)), par, n, xs⟩], ?_, ?_, ?_, ?_, ?_, fun i q hq => ?_, ?_⟩
      · rw [List.map_append, x2, List.range_succ, List.map_append]; rfl
      · show x.2.2.1 ++ xs = _
        rw [List.flatMap_append, ← x3]; simp
      · show (x.2.2.1 ++ xs).length = _
        rw [List.length_append, x4, z1]
        omega
      · show x.2.2.2.1 ++ [par] = _
        rw [List.map_append, ← x5]; rfl
      · show x.2.2.2.2 ++ [n] = _
        rw [List.map_append, ← x6]; rfl
      · rcases Nat.lt_or_ge i k with h5 | h5
        · rw [List.getElem?_append_left (by omega)] at hq
          exact x7 i q hq
        · have hi : i = k := by
            rcases Nat.lt_or_ge i (k + 1) with h6 | h6
            · omega
            · rw [List.getElem?_eq_none (by simp; omega)] at hq; cases hq
          subst hi
          rw [List.getElem?_append_right (by omega), hlenqs] at hq
          simp at hq
          subst hq
          exact ⟨z2, z4, z1⟩
      · show Step b pos 0 _ 0 p'
        have := x8'.trans (y := partBits m par n xs) (e2 := 0) (p2 := p') (fun q hq => by
          obtain rfl : qe = q := by omega
          exact z3)
        rw [List.flatMap_append, ← List.append_assoc]
        simpa [Part.bits] using this
    · right
      exact ⟨_, r1, z1, p', rfl, z2⟩
  · obtain ⟨hr1, p', h1, h2, h3, h4⟩ := hr
    refine ⟨r.1, r.2.1, r.2.2.1, r.2.2.2.1, r.2.2.2.2.1, r.2.2.2.2.2.1, r.2.2.2.2.2.2.1, p', ?_, h2, h3, h4⟩
    rw [hr1, ← h1]
end
end Go.Vg
