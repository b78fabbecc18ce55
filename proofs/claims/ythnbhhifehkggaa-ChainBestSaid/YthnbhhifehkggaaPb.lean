/- What Compact, and DeleteFunc, answer. -/
import Derived.Test.YthnbhhifehkggaaPa
set_option maxRecDepth 4000
set_option linter.all false
set_option linter.unusedVariables false
set_option linter.unusedSimpArgs false
namespace Go.Vg
open Go
theorem take_two {α : Type} {l : List α} {k : Nat} {x y : α} (h1 : 1 ≤ k) (ex : l[k - 1]? = some x) (ey : l[k]? = some y) : l.take k = l.take (k - 1) ++ [x] ∧ l.take (k + 1) = l.take (k - 1) ++ [x, y] := by
  have q : l.take k = l.take (k - 1) ++ [x] := by
    have := List.take_add_one (l := l) (i := k - 1)
    rw [show k - 1 + 1 = k by omega, ex] at this
    exact this
  refine ⟨q, ?_⟩
  rw [List.take_add_one, ey, q]; simp
theorem cutEnd {α A : Type} {z : α} {m : List α} {i : Nat} (hi : i ≤ m.length) (K : List α → Option A) (r : A) (hr : K (m.take i) = some r) :
    ((sub m (i : Int) (m.length : Int)).bind fun _ => if decide (0 < ((m.length : Int) - i)) = true then (clr m (i : Int) ((m.length : Int) - i) z).bind fun l9 => (sub l9 0 (i : Int)).bind K else (sub m 0 (i : Int)).bind K) = some r := by
  have s1 : sub m (i : Int) (m.length : Int) = some (m.drop i) := by
    rw [sub_ok hi (by omega), List.take_of_length_le (by simp)]
  rw [s1, Option.bind_some]
  by_cases h : i < m.length
  · rw [if_pos (by simp; omega)]
    have hc : clr m (i : Int) ((m.length : Int) - i) z = some (m.take i ++ List.replicate (m.length - i) z) := by
      unfold clr
      have e : ((m.length : Int) - i).toNat = m.length - i := by omega
      rw [if_pos ⟨by omega, by omega⟩, e]
      congr 2
      rw [Int.toNat_natCast, List.drop_of_length_le (by omega), List.append_nil]
    rw [hc, Option.bind_some]
    have s2 : sub (m.take i ++ List.replicate (m.length - i) z) 0 (i : Int) = some (m.take i) := by
      have := sub_ok (l := m.take i ++ List.replicate (m.length - i) z) (i := 0) (j := i) (by omega) (by simp; omega)
      rw [show ((0 : Nat) : Int) = 0 from rfl] at this
      rw [this]
      simp only [List.drop_zero, Nat.sub_zero]
      rw [List.take_append_of_le_length (by simp; omega), List.take_take]
      congr 2; omega
    rw [s2, Option.bind_some, hr]
  · rw [if_neg (by simp; omega)]
    have : i = m.length := by omega
    subst this
    have s2 : sub m 0 (m.length : Int) = some m := by
      have := sub_ok (l := m) (i := 0) (j := m.length) (by omega) (by omega)
      rw [show ((0 : Nat) : Int) = 0 from rfl] at this
      rw [this]; simp
    rw [s2, Option.bind_some]
    rwa [List.take_of_length_le (Nat.le_refl _)] at hr
theorem compact_cand (l : List chain_Cand) (hl : l.length ≤ 100000) : slices_Compact_schain_Cand_chain_Cand l = some (dd l) := by
  unfold slices_Compact_schain_Cand_chain_Cand
  by_cases h2 : l.length < 2
  · rw [if_pos (by simpa using (show (l.length : Int) < 2 by omega))]
    match l, h2 with
    | [], _ => rfl
    | [_], _ => rfl
  rw [if_neg (by simpa using (show ¬ (l.length : Int) < 2 by omega))]
  refine iter_eq (fun a : Int => ∃ k : Nat, a = (k : Int) ∧ 1 ≤ k ∧ k ≤ l.length ∧ dd (l.take k) = l.take k) (fun a => l.length - a.toNat) (dd l) (fun a ha => ?_) (a0 := (1 : Int)) ⟨1, rfl, by omega, by omega, ?_⟩ (lt_ROUNDS (by omega))
  rotate_left
  · match l, h2 with
    | x :: _, _ => rfl
  obtain ⟨k, rfl, hk1, hk, hd⟩ := ha
  simp only [slices_Compact_schain_Cand_chain_Cand_L1]
  by_cases hlt : k < l.length
  · have hw : W ((k : Int) - 1) = ((k - 1 : Nat) : Int) := by rw [W_id (by omega) (by omega)]; omega
    have hw2 : W ((k : Int) + 1) = ((k + 1 : Nat) : Int) := by rw [W_id (by omega) (by omega)]; omega
    have e1 : l[k]? = some l[k] := List.getElem?_eq_getElem hlt
    have e2 : l[k - 1]? = some l[k - 1] := List.getElem?_eq_getElem (by omega)
    obtain ⟨t0, t1⟩ := take_two hk1 e2 e1
    rw [if_pos (by simpa using (show (k : Int) < l.length by omega)), need_ok (by simp), need_ok (by simp; omega), idx_ok e1, Option.bind_some, hw, need_ok (by simp), need_ok (by simp; omega), idx_ok e2, Option.bind_some, candEq]
    by_cases he : l[k] = l[k - 1]
    · rw [if_pos (by simpa using he)]
      right
      have hsv : subv l (k : Int) (l.length : Int) = some (l.drop k, (k : Int), (l.length : Int) - k) := by
        unfold subv
        rw [sub_ok (by omega) (by omega), List.take_of_length_le (by simp)]; rfl
      rw [hsv, Option.bind_some]
      refine iter_eq (step := slices_Compact_schain_Cand_chain_Cand_L2 (l.drop k, (k : Int), (l.length : Int) - k)) (fun a : Int × Int × List chain_Cand => ∃ i j : Nat, a.1 = (i : Int) ∧ a.2.1 = (j : Int) ∧ 1 ≤ j ∧ k + j ≤ l.length ∧ i + 1 ≤ k + j ∧ a.2.2.length = l.length ∧ a.2.2.take i = dd (l.take (k + j)) ∧ a.2.2.drop (k + j - 1) = l.drop (k + j - 1)) (fun a => l.length - a.2.1.toNat) _ (fun a ha => ?_)
        (a0 := ((k : Int), 1, l)) ⟨k, 1, rfl, rfl, by omega, by omega, by omega, rfl, ?_, rfl⟩ (lt_ROUNDS (by simp only; omega))
      · obtain ⟨i', j', m⟩ := a
        obtain ⟨i, j, rfl, rfl, hj1, hj, hij, hm, ht, hdr⟩ := ha
        simp only at hm ht hdr
        simp only [slices_Compact_schain_Cand_chain_Cand_L2]
        by_cases hjl : k + j < l.length
        · left
          have w1 : W ((j : Int) - 1) = ((j - 1 : Nat) : Int) := by rw [W_id (by omega) (by omega)]; omega
          have w2 : W ((k : Int) + j) = ((k + j : Nat) : Int) := by rw [W_id (by omega) (by omega)]; omega
          have w3 : W ((k : Int) + ((j - 1 : Nat) : Int)) = ((k + j - 1 : Nat) : Int) := by rw [W_id (by omega) (by omega)]; omega
          have w4 : W ((j : Int) + 1) = ((j + 1 : Nat) : Int) := by rw [W_id (by omega) (by omega)]; omega
          have w5 : W ((i : Int) + 1) = ((i + 1 : Nat) : Int) := by rw [W_id (by omega) (by omega)]; omega
          have l1 : l[k + j]? = some l[k + j] := List.getElem?_eq_getElem hjl
          have l2 : l[k + j - 1]? = some (l[k + j - 1]'(by omega)) := List.getElem?_eq_getElem (by omega)
          have m1 : m[k + j]? = some l[k + j] := by
            have := congrArg (fun q => q[1]?) hdr
            simp only [List.getElem?_drop, show k + j - 1 + 1 = k + j by omega] at this
            rw [this, l1]
          have m2 : m[k + j - 1]? = some (l[k + j - 1]'(by omega)) := by
            have := congrArg (fun q => q[0]?) hdr
            simp only [List.getElem?_drop, Nat.add_zero] at this
            rw [this, l2]
          obtain ⟨t3, t2⟩ := take_two (l := l) (k := k + j) (by omega) l2 l1
          have hsn := dd_snoc (l.take (k + j - 1)) (l[k + j - 1]'(by omega)) l[k + j]
          rw [← t2, ← t3, ← ht] at hsn
          have hdr2 : m.drop (k + j) = l.drop (k + j) := by
            have := congrArg (fun q => q.drop 1) hdr
            simpa only [List.drop_drop, show k + j - 1 + 1 = k + j by omega] using this
          rw [if_pos (by simpa using (show (j : Int) < (l.length : Int) - k by omega))]
          by_cases he2 : l[k + j] = l[k + j - 1]'(by omega)
          · refine ⟨((i : Int), ((j + 1 : Nat) : Int), m), ?_, ⟨i, j + 1, rfl, rfl, by omega, by omega, by omega, hm, ?_, hdr2⟩, by simp only; omega⟩
            · rw [need_ok (by simp), need_ok (by simp; omega)]
              simp only [w1, w2, w3]
              rw [idx_ok m1, Option.bind_some, need_ok (by simp), need_ok (by simp; omega), idx_ok m2, Option.bind_some, candEq]
              simp [he2, slices_Compact_schain_Cand_chain_Cand_K4, w4]
            · rw [← Nat.add_assoc, hsn, if_pos he2.symm]
          · have hil : i < m.length := by omega
            refine ⟨(((i + 1 : Nat) : Int), ((j + 1 : Nat) : Int), m.set i l[k + j]), ?_, ⟨i + 1, j + 1, rfl, rfl, by omega, by omega, by omega, by simpa using hm, ?_, ?_⟩, by simp only; omega⟩
            · rw [need_ok (by simp), need_ok (by simp; omega)]
              simp only [w1, w2, w3]
              rw [idx_ok m1, Option.bind_some, need_ok (by simp), need_ok (by simp; omega), idx_ok m2, Option.bind_some, candEq]
              have n1 : decide ((j : Int) < (l.length : Int) - k) = true := by simp; omega
              simp [he2, slices_Compact_schain_Cand_chain_Cand_K4, w2, w4, w5, need_t, n1, m1, idx_ok m1, upd, need, hil]
            · rw [← Nat.add_assoc, hsn, if_neg (fun h => he2 h.symm), List.take_add_one, List.take_set_of_le (Nat.le_refl _), List.getElem?_set_self hil]; rfl
            · simp only
              rw [List.drop_set_of_lt (by omega)]; exact hdr2
        · right
          rw [if_neg (by simpa using (show ¬ (j : Int) < (l.length : Int) - k by omega))]
          have hjl' : k + j = l.length := by omega
          have ht' : m.take i = dd l := by rw [ht, hjl', List.take_of_length_le (Nat.le_refl _)]
          simp only [slices_Compact_schain_Cand_chain_Cand_K3]
          have := cutEnd (m := m) (i := i) (z := ⟨⟨0, 0, 0⟩, 0, 0, 0, 0, false⟩) (by omega) (fun l => (Option.map Sum.inr (some l) : Option (Int ⊕ List chain_Cand))) (.inr (dd l)) (by simp [ht'])
          simpa using congrArg (Option.map (Sum.inr (α := Int × Int × List chain_Cand))) this
      · rw [t1, dd_snoc, if_pos he.symm, ← t0, hd]
    · left
      rw [if_neg (by simpa using he)]
      simp only [slices_Compact_schain_Cand_chain_Cand_K2]
      refine ⟨((k + 1 : Nat) : Int), by rw [hw2], ⟨k + 1, rfl, by omega, by omega, ?_⟩, by omega⟩
      rw [t1, dd_snoc, if_neg (fun h => he h.symm), ← t0, hd, t0, List.append_assoc]; rfl
  · right
    rw [if_neg (by simpa using (show ¬ (k : Int) < l.length by omega))]
    have : k = l.length := by omega
    subst this
    rw [List.take_of_length_le (Nat.le_refl _)] at hd
    simp only [slices_Compact_schain_Cand_chain_Cand_K1, Option.map_some, hd]
theorem compact_guess (l : List chain_Guess) (hl : l.length ≤ 100000) : slices_Compact_schain_Guess_chain_Guess l = some (dd l) := by
  unfold slices_Compact_schain_Guess_chain_Guess
  by_cases h2 : l.length < 2
  · rw [if_pos (by simpa using (show (l.length : Int) < 2 by omega))]
    match l, h2 with
    | [], _ => rfl
    | [_], _ => rfl
  rw [if_neg (by simpa using (show ¬ (l.length : Int) < 2 by omega))]
  refine iter_eq (fun a : Int => ∃ k : Nat, a = (k : Int) ∧ 1 ≤ k ∧ k ≤ l.length ∧ dd (l.take k) = l.take k) (fun a => l.length - a.toNat) (dd l) (fun a ha => ?_) (a0 := (1 : Int)) ⟨1, rfl, by omega, by omega, ?_⟩ (lt_ROUNDS (by omega))
  rotate_left
  · match l, h2 with
    | x :: _, _ => rfl
  obtain ⟨k, rfl, hk1, hk, hd⟩ := ha
  simp only [slices_Compact_schain_Guess_chain_Guess_L1]
  by_cases hlt : k < l.length
  · have hw : W ((k : Int) - 1) = ((k - 1 : Nat) : Int) := by rw [W_id (by omega) (by omega)]; omega
    have hw2 : W ((k : Int) + 1) = ((k + 1 : Nat) : Int) := by rw [W_id (by omega) (by omega)]; omega
    have e1 : l[k]? = some l[k] := List.getElem?_eq_getElem hlt
    have e2 : l[k - 1]? = some l[k - 1] := List.getElem?_eq_getElem (by omega)
    obtain ⟨t0, t1⟩ := take_two hk1 e2 e1
    rw [if_pos (by simpa using (show (k : Int) < l.length by omega)), need_ok (by simp), need_ok (by simp; omega), idx_ok e1, Option.bind_some, hw, need_ok (by simp), need_ok (by simp; omega), idx_ok e2, Option.bind_some, guessEq]
    by_cases he : l[k] = l[k - 1]
    · rw [if_pos (by simpa using he)]
      right
      have hsv : subv l (k : Int) (l.length : Int) = some (l.drop k, (k : Int), (l.length : Int) - k) := by
        unfold subv
        rw [sub_ok (by omega) (by omega), List.take_of_length_le (by simp)]; rfl
      rw [hsv, Option.bind_some]
      refine iter_eq (step := slices_Compact_schain_Guess_chain_Guess_L2 (l.drop k, (k : Int), (l.length : Int) - k)) (fun a : Int × Int × List chain_Guess => ∃ i j : Nat, a.1 = (i : Int) ∧ a.2.1 = (j : Int) ∧ 1 ≤ j ∧ k + j ≤ l.length ∧ i + 1 ≤ k + j ∧ a.2.2.length = l.length ∧ a.2.2.take i = dd (l.take (k + j)) ∧ a.2.2.drop (k + j - 1) = l.drop (k + j - 1)) (fun a => l.length - a.2.1.toNat) _ (fun a ha => ?_)
        (a0 := ((k : Int), 1, l)) ⟨k, 1, rfl, rfl, by omega, by omega, by omega, rfl, ?_, rfl⟩ (lt_ROUNDS (by simp only; omega))
      · obtain ⟨i', j', m⟩ := a
        obtain ⟨i, j, rfl, rfl, hj1, hj, hij, hm, ht, hdr⟩ := ha
        simp only at hm ht hdr
        simp only [slices_Compact_schain_Guess_chain_Guess_L2]
        by_cases hjl : k + j < l.length
        · left
          have w1 : W ((j : Int) - 1) = ((j - 1 : Nat) : Int) := by rw [W_id (by omega) (by omega)]; omega
          have w2 : W ((k : Int) + j) = ((k + j : Nat) : Int) := by rw [W_id (by omega) (by omega)]; omega
          have w3 : W ((k : Int) + ((j - 1 : Nat) : Int)) = ((k + j - 1 : Nat) : Int) := by rw [W_id (by omega) (by omega)]; omega
          have w4 : W ((j : Int) + 1) = ((j + 1 : Nat) : Int) := by rw [W_id (by omega) (by omega)]; omega
          have w5 : W ((i : Int) + 1) = ((i + 1 : Nat) : Int) := by rw [W_id (by omega) (by omega)]; omega
          have l1 : l[k + j]? = some l[k + j] := List.getElem?_eq_getElem hjl
          have l2 : l[k + j - 1]? = some (l[k + j - 1]'(by omega)) := List.getElem?_eq_getElem (by omega)
          have m1 : m[k + j]? = some l[k + j] := by
            have := congrArg (fun q => q[1]?) hdr
            simp only [List.getElem?_drop, show k + j - 1 + 1 = k + j by omega] at this
            rw [this, l1]
          have m2 : m[k + j - 1]? = some (l[k + j - 1]'(by omega)) := by
            have := congrArg (fun q => q[0]?) hdr
            simp only [List.getElem?_drop, Nat.add_zero] at this
            rw [this, l2]
          obtain ⟨t3, t2⟩ := take_two (l := l) (k := k + j) (by omega) l2 l1
          have hsn := dd_snoc (l.take (k + j - 1)) (l[k + j - 1]'(by omega)) l[k + j]
          rw [← t2, ← t3, ← ht] at hsn
          have hdr2 : m.drop (k + j) = l.drop (k + j) := by
            have := congrArg (fun q => q.drop 1) hdr
            simpa only [List.drop_drop, show k + j - 1 + 1 = k + j by omega] using this
          rw [if_pos (by simpa using (show (j : Int) < (l.length : Int) - k by omega))]
          by_cases he2 : l[k + j] = l[k + j - 1]'(by omega)
          · refine ⟨((i : Int), ((j + 1 : Nat) : Int), m), ?_, ⟨i, j + 1, rfl, rfl, by omega, by omega, by omega, hm, ?_, hdr2⟩, by simp only; omega⟩
            · rw [need_ok (by simp), need_ok (by simp; omega)]
              simp only [w1, w2, w3]
              rw [idx_ok m1, Option.bind_some, need_ok (by simp), need_ok (by simp; omega), idx_ok m2, Option.bind_some, guessEq]
              simp [he2, slices_Compact_schain_Guess_chain_Guess_K4, w4]
            · rw [← Nat.add_assoc, hsn, if_pos he2.symm]
          · have hil : i < m.length := by omega
            refine ⟨(((i + 1 : Nat) : Int), ((j + 1 : Nat) : Int), m.set i l[k + j]), ?_, ⟨i + 1, j + 1, rfl, rfl, by omega, by omega, by omega, by simpa using hm, ?_, ?_⟩, by simp only; omega⟩
            · rw [need_ok (by simp), need_ok (by simp; omega)]
              simp only [w1, w2, w3]
              rw [idx_ok m1, Option.bind_some, need_ok (by simp), need_ok (by simp; omega), idx_ok m2, Option.bind_some, guessEq]
              have n1 : decide ((j : Int) < (l.length : Int) - k) = true := by simp; omega
              simp [he2, slices_Compact_schain_Guess_chain_Guess_K4, w2, w4, w5, need_t, n1, m1, idx_ok m1, upd, need, hil]
            · rw [← Nat.add_assoc, hsn, if_neg (fun h => he2 h.symm), List.take_add_one, List.take_set_of_le (Nat.le_refl _), List.getElem?_set_self hil]; rfl
            · simp only
              rw [List.drop_set_of_lt (by omega)]; exact hdr2
        · right
          rw [if_neg (by simpa using (show ¬ (j : Int) < (l.length : Int) - k by omega))]
          have hjl' : k + j = l.length := by omega
          have ht' : m.take i = dd l := by rw [ht, hjl', List.take_of_length_le (Nat.le_refl _)]
          simp only [slices_Compact_schain_Guess_chain_Guess_K3]
          have := cutEnd (m := m) (i := i) (z := ⟨⟨0, 0, 0⟩, false, 0⟩) (by omega) (fun l => (Option.map Sum.inr (some l) : Option (Int ⊕ List chain_Guess))) (.inr (dd l)) (by simp [ht'])
          simpa using congrArg (Option.map (Sum.inr (α := Int × Int × List chain_Guess))) this
      · rw [t1, dd_snoc, if_pos he.symm, ← t0, hd]
    · left
      rw [if_neg (by simpa using he)]
      simp only [slices_Compact_schain_Guess_chain_Guess_K2]
      refine ⟨((k + 1 : Nat) : Int), by rw [hw2], ⟨k + 1, rfl, by omega, by omega, ?_⟩, by omega⟩
      rw [t1, dd_snoc, if_neg (fun h => he h.symm), ← t0, hd, t0, List.append_assoc]; rfl
  · right
    rw [if_neg (by simpa using (show ¬ (k : Int) < l.length by omega))]
    have : k = l.length := by omega
    subst this
    rw [List.take_of_length_le (Nat.le_refl _)] at hd
    simp only [slices_Compact_schain_Guess_chain_Guess_K1, Option.map_some, hd]

section
variable {p : chain_Cand → Bool} {l : List chain_Cand}
theorem sindexFunc_eq (hg : ∀ r, r ∈ l → chain_sorted_c1 r = some (p r)) (hl : l.length ≤ 100000) :
    ∃ i : Int, slices_IndexFunc_schain_Cand_chain_Cand l = some i ∧ ((i = -1 ∧ l.filter (fun r => !p r) = l) ∨ ∃ k : Nat, i = k ∧ k < l.length ∧ (l.take (k + 1)).filter (fun r => !p r) = l.take k) := by
  unfold slices_IndexFunc_schain_Cand_chain_Cand
  refine iter_of (fun i : Int => ∃ k : Nat, i = k ∧ k ≤ l.length ∧ (l.take k).filter (fun r => !p r) = l.take k) (fun i => (l.length - i).toNat) _ (fun i hi => ?_) ⟨0, rfl, by omega, by simp⟩ (lt_ROUNDS (by omega))
  obtain ⟨k, rfl, hk, hf⟩ := hi
  simp only [slices_IndexFunc_schain_Cand_chain_Cand_L1]
  by_cases h : k < l.length
  · rw [if_pos (by simpa using h)]
    have e1 : l[k]? = some l[k] := List.getElem?_eq_getElem h
    rw [idx_ok e1]
    simp only [Option.bind_some, hg _ (List.getElem_mem h)]
    have e2 : l.take (k + 1) = l.take k ++ [l[k]] := by rw [List.take_add_one, e1]; rfl
    cases hp : p l[k] with
    | true =>
      right
      refine ⟨_, rfl, .inr ⟨k, rfl, h, ?_⟩⟩
      rw [e2, List.filter_append, hf]; simp [hp]
    | false =>
      left
      refine ⟨_, rfl, ⟨k + 1, ?_, by omega, ?_⟩, ?_⟩
      · rw [W_id (by omega) (by omega)]; omega
      · rw [e2, List.filter_append, hf]; simp [hp]
      · rw [W_id (by omega) (by omega)]; omega
  · rw [if_neg (by simpa using h)]
    right
    refine ⟨_, rfl, .inl ⟨rfl, ?_⟩⟩
    rwa [List.take_of_length_le (by omega)] at hf
theorem sdeleteFunc_eq (hg : ∀ r, r ∈ l → chain_sorted_c1 r = some (p r)) (hl : l.length ≤ 100000) : slices_DeleteFunc_schain_Cand_chain_Cand l = some (l.filter fun r => !p r) := by
  unfold slices_DeleteFunc_schain_Cand_chain_Cand
  obtain ⟨i, h1, h2⟩ := sindexFunc_eq hg hl
  rw [h1, Option.bind_some]
  rcases h2 with ⟨rfl, h2⟩ | ⟨k, rfl, hk, h2⟩
  · rw [if_pos (by simp), h2]
  · rw [if_neg (by simp), W_id (by omega) (by omega)]
    refine iter_eq (fun a : Int × Int × List chain_Cand => ∃ i j : Nat, a.1 = i ∧ a.2.1 = j ∧ i < j ∧ j ≤ l.length ∧ a.2.2.length = l.length ∧ a.2.2.take i = (l.take j).filter (fun r => !p r) ∧ a.2.2.drop j = l.drop j) (fun a => (l.length - a.2.1).toNat) _ (fun a ha => ?_)
      ⟨k, k + 1, rfl, by simp only; omega, by omega, by omega, rfl, h2.symm, rfl⟩ (lt_ROUNDS (by simp only; omega))
    obtain ⟨i', j', m⟩ := a
    obtain ⟨i, j, rfl, rfl, hij, hj, hm, ht, hd⟩ := ha
    simp only at hm ht hd
    simp only [slices_DeleteFunc_schain_Cand_chain_Cand_L1]
    by_cases h : j < l.length
    · left
      rw [if_pos (by simp; omega), need_ok (by simp), need_ok (by simp; omega)]
      have e0 : m[j]? = l[j]? := by
        have := congrArg (fun q => q[0]?) hd
        simpa using this
      have e1 : m[j]? = some l[j] := by rw [e0]; exact List.getElem?_eq_getElem h
      have e2 : l.take (j + 1) = l.take j ++ [l[j]] := by rw [List.take_add_one, List.getElem?_eq_getElem h]; rfl
      rw [idx_ok e1]
      simp only [Option.bind_some, hg _ (List.getElem_mem h)]
      cases hp : p l[j] with
      | true =>
        rw [if_neg (by simp)]
        simp only [slices_DeleteFunc_schain_Cand_chain_Cand_K2]
        refine ⟨_, rfl, ⟨i, j + 1, rfl, ?_, by omega, by omega, hm, ?_, ?_⟩, ?_⟩
        · simp only; rw [W_id (by omega) (by omega)]; omega
        · simp only; rw [ht, e2, List.filter_append]; simp [hp]
        · simp only; rw [← List.drop_drop, ← List.drop_drop, hd]
        · simp only; rw [W_id (by omega) (by omega)]; omega
      | false =>
        rw [if_pos (by simp), need_ok (by simp), need_ok (by simp; omega)]
        simp only [upd, Option.bind_some, slices_DeleteFunc_schain_Cand_chain_Cand_K2, Int.toNat_natCast]
        refine ⟨_, rfl, ⟨i + 1, j + 1, ?_, ?_, by omega, by omega, by simpa using hm, ?_, ?_⟩, ?_⟩
        · simp only; rw [W_id (by omega) (by omega)]; omega
        · simp only; rw [W_id (by omega) (by omega)]; omega
        · simp only
          rw [e2, List.filter_append, ← ht, List.take_add_one, List.take_set_of_le (by omega), List.getElem?_set_self (by omega)]
          simp [hp]
        · simp only
          rw [List.drop_set_of_lt (by omega), ← List.drop_drop, ← List.drop_drop, hd]
        · simp only; rw [W_id (by omega) (by omega)]; omega
    · right
      rw [if_neg (by simp; omega)]
      have hjl : j = l.length := by omega
      subst hjl
      have ht' : m.take i = l.filter fun r => !p r := by rw [ht, List.take_of_length_le (by omega)]
      simp only [slices_DeleteFunc_schain_Cand_chain_Cand_K1]
      have := cutEnd (m := m) (i := i) (z := ⟨⟨0, 0, 0⟩, 0, 0, 0, 0, false⟩) (by omega) (fun l => (some l : Option (List chain_Cand))) (l.filter fun r => !p r) (by simp [ht'])
      rw [this]; rfl
end

section
variable {p : chain_Cand → Bool} {l : List chain_Cand}
theorem hindexFunc_eq {y0 y1 y2 y4 : Int} {y3 : Bool} (hg : ∀ r, r ∈ l → chain_Heaviest_c1 r y0 y1 y2 y3 y4 = some (p r)) (hl : l.length ≤ 100000) :
    ∃ i : Int, slices_IndexFunc_schain_Cand_chain_Cand_x2 l y0 y1 y2 y3 y4 = some i ∧ ((i = -1 ∧ l.filter (fun r => !p r) = l) ∨ ∃ k : Nat, i = k ∧ k < l.length ∧ (l.take (k + 1)).filter (fun r => !p r) = l.take k) := by
  unfold slices_IndexFunc_schain_Cand_chain_Cand_x2
  refine iter_of (fun i : Int => ∃ k : Nat, i = k ∧ k ≤ l.length ∧ (l.take k).filter (fun r => !p r) = l.take k) (fun i => (l.length - i).toNat) _ (fun i hi => ?_) ⟨0, rfl, by omega, by simp⟩ (lt_ROUNDS (by omega))
  obtain ⟨k, rfl, hk, hf⟩ := hi
  simp only [slices_IndexFunc_schain_Cand_chain_Cand_x2_L1]
  by_cases h : k < l.length
  · rw [if_pos (by simpa using h)]
    have e1 : l[k]? = some l[k] := List.getElem?_eq_getElem h
    rw [idx_ok e1]
    simp only [Option.bind_some, hg _ (List.getElem_mem h)]
    have e2 : l.take (k + 1) = l.take k ++ [l[k]] := by rw [List.take_add_one, e1]; rfl
    cases hp : p l[k] with
    | true =>
      right
      refine ⟨_, rfl, .inr ⟨k, rfl, h, ?_⟩⟩
      rw [e2, List.filter_append, hf]; simp [hp]
    | false =>
      left
      refine ⟨_, rfl, ⟨k + 1, ?_, by omega, ?_⟩, ?_⟩
      · rw [W_id (by omega) (by omega)]; omega
      · rw [e2, List.filter_append, hf]; simp [hp]
      · rw [W_id (by omega) (by omega)]; omega
  · rw [if_neg (by simpa using h)]
    right
    refine ⟨_, rfl, .inl ⟨rfl, ?_⟩⟩
    rwa [List.take_of_length_le (by omega)] at hf
theorem hdeleteFunc_eq {y0 y1 y2 y4 : Int} {y3 : Bool} (hg : ∀ r, r ∈ l → chain_Heaviest_c1 r y0 y1 y2 y3 y4 = some (p r)) (hl : l.length ≤ 100000) : slices_DeleteFunc_schain_Cand_chain_Cand_x2 y0 y1 y2 y3 y4 l = some (l.filter fun r => !p r) := by
  unfold slices_DeleteFunc_schain_Cand_chain_Cand_x2
  obtain ⟨i, h1, h2⟩ := hindexFunc_eq hg hl
  rw [h1, Option.bind_some]
  rcases h2 with ⟨rfl, h2⟩ | ⟨k, rfl, hk, h2⟩
  · rw [if_pos (by simp), h2]
  · rw [if_neg (by simp), W_id (by omega) (by omega)]
    refine iter_eq (fun a : Int × Int × List chain_Cand => ∃ i j : Nat, a.1 = i ∧ a.2.1 = j ∧ i < j ∧ j ≤ l.length ∧ a.2.2.length = l.length ∧ a.2.2.take i = (l.take j).filter (fun r => !p r) ∧ a.2.2.drop j = l.drop j) (fun a => (l.length - a.2.1).toNat) _ (fun a ha => ?_)
      ⟨k, k + 1, rfl, by simp only; omega, by omega, by omega, rfl, h2.symm, rfl⟩ (lt_ROUNDS (by simp only; omega))
    obtain ⟨i', j', m⟩ := a
    obtain ⟨i, j, rfl, rfl, hij, hj, hm, ht, hd⟩ := ha
    simp only at hm ht hd
    simp only [slices_DeleteFunc_schain_Cand_chain_Cand_x2_L1]
    by_cases h : j < l.length
    · left
      rw [if_pos (by simp; omega), need_ok (by simp), need_ok (by simp; omega)]
      have e0 : m[j]? = l[j]? := by
        have := congrArg (fun q => q[0]?) hd
        simpa using this
      have e1 : m[j]? = some l[j] := by rw [e0]; exact List.getElem?_eq_getElem h
      have e2 : l.take (j + 1) = l.take j ++ [l[j]] := by rw [List.take_add_one, List.getElem?_eq_getElem h]; rfl
      rw [idx_ok e1]
      simp only [Option.bind_some, hg _ (List.getElem_mem h)]
      cases hp : p l[j] with
      | true =>
        rw [if_neg (by simp)]
        simp only [slices_DeleteFunc_schain_Cand_chain_Cand_x2_K2]
        refine ⟨_, rfl, ⟨i, j + 1, rfl, ?_, by omega, by omega, hm, ?_, ?_⟩, ?_⟩
        · simp only; rw [W_id (by omega) (by omega)]; omega
        · simp only; rw [ht, e2, List.filter_append]; simp [hp]
        · simp only; rw [← List.drop_drop, ← List.drop_drop, hd]
        · simp only; rw [W_id (by omega) (by omega)]; omega
      | false =>
        rw [if_pos (by simp), need_ok (by simp), need_ok (by simp; omega)]
        simp only [upd, Option.bind_some, slices_DeleteFunc_schain_Cand_chain_Cand_x2_K2, Int.toNat_natCast]
        refine ⟨_, rfl, ⟨i + 1, j + 1, ?_, ?_, by omega, by omega, by simpa using hm, ?_, ?_⟩, ?_⟩
        · simp only; rw [W_id (by omega) (by omega)]; omega
        · simp only; rw [W_id (by omega) (by omega)]; omega
        · simp only
          rw [e2, List.filter_append, ← ht, List.take_add_one, List.take_set_of_le (by omega), List.getElem?_set_self (by omega)]
          simp [hp]
        · simp only
          rw [List.drop_set_of_lt (by omega), ← List.drop_drop, ← List.drop_drop, hd]
        · simp only; rw [W_id (by omega) (by omega)]; omega
    · right
      rw [if_neg (by simp; omega)]
      have hjl : j = l.length := by omega
      subst hjl
      have ht' : m.take i = l.filter fun r => !p r := by rw [ht, List.take_of_length_le (by omega)]
      simp only [slices_DeleteFunc_schain_Cand_chain_Cand_x2_K1]
      have := cutEnd (m := m) (i := i) (z := ⟨⟨0, 0, 0⟩, 0, 0, 0, 0, false⟩) (by omega) (fun l => (some l : Option (List chain_Cand))) (l.filter fun r => !p r) (by simp [ht'])
      rw [this]; rfl
end
end Go.Vg
