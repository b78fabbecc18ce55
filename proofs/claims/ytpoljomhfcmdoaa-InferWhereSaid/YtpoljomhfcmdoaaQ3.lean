/- What is missing; lists that are one; lists that rise. -/
import Derived.Test.YtpoljomhfcmdoaaQ2
set_option maxRecDepth 4000
set_option linter.all false
set_option linter.unusedVariables false
set_option linter.unusedSimpArgs false
namespace Go.Vg
open Go

theorem awake17 : jetsamlaw17_awake = some true := by kernel_rfl

theorem ranges_same (l : List infer_Range) (hl : l.length ≤ 100000) : jetsamlaw17_Ranges l l = some true := by
  unfold jetsamlaw17_Ranges
  rw [if_neg (by simp)]
  refine iter_eq (fun i : Int => ∃ k : Nat, i = k ∧ k ≤ l.length) (fun i => (l.length - i).toNat) _ (fun i hi => ?_) ⟨0, rfl, by omega⟩ (lt_ROUNDS (by omega))
  obtain ⟨k, rfl, hk⟩ := hi
  simp only [jetsamlaw17_Ranges_L1]
  by_cases h : k < l.length
  · left
    have e1 : l[k]? = some l[k] := List.getElem?_eq_getElem h
    rw [if_pos (by simpa using h), idx_ok e1, Option.bind_some, Option.bind_some, if_neg (by simp)]
    refine ⟨_, rfl, ⟨k + 1, ?_, by omega⟩, ?_⟩
    · rw [W_id (by omega) (by omega)]; omega
    · rw [W_id (by omega) (by omega)]; omega
  · right
    rw [if_neg (by simpa using h)]
    rfl

/-- Earlier ones end ahead of later ones. -/
theorem rise_pair : ∀ (l : List infer_Range), Rise l → ∀ (i j : Nat) (p q : infer_Range), l[i]? = some p → l[j]? = some q → i < j → p.To < q.From
  | [], _, i, j, p, q, h, _, _ => by simp at h
  | r :: l, hr, 0, j + 1, p, q, h1, h2, _ => by
    simp only [List.getElem?_cons_zero, Option.some.injEq] at h1
    subst h1
    exact hr.2.1 q (List.mem_of_getElem? (by simpa using h2))
  | r :: l, hr, i + 1, j + 1, p, q, h1, h2, hij => rise_pair l hr.2.2 i j p q (by simpa using h1) (by simpa using h2) (by omega)

theorem rises_eq {l : List infer_Range} (hR : Rise l) (hb : Lim l) (hl : l.length ≤ 100000) : jetsamlaw17_rises l = some true := by
  unfold jetsamlaw17_rises
  refine iter_eq (fun i : Int => ∃ k : Nat, i = k ∧ k ≤ l.length) (fun i => (l.length - i).toNat) _ (fun i hi => ?_) ⟨0, rfl, by omega⟩ (lt_ROUNDS (by omega))
  obtain ⟨k, rfl, hk⟩ := hi
  simp only [jetsamlaw17_rises_L1]
  by_cases h : k < l.length
  · left
    have e1 : l[k]? = some l[k] := List.getElem?_eq_getElem h
    have hm := List.getElem_mem h
    have h0 := rise_ne hR hm
    rw [if_pos (by simpa using h), idx_ok e1, Option.bind_some, len_eq (hb.wsub hm), Option.bind_some, if_neg (by simp; omega), Option.bind_some]
    have fin : ∃ a' : Int, (some (.inl (W ((k : Int) + 1))) : Option (Int ⊕ Bool)) = some (.inl a') ∧ (∃ q : Nat, a' = q ∧ q ≤ l.length) ∧ (l.length - a').toNat < (l.length - (k : Int)).toNat := by
      refine ⟨_, rfl, ⟨k + 1, ?_, by omega⟩, ?_⟩
      · rw [W_id (by omega) (by omega)]; omega
      · rw [W_id (by omega) (by omega)]; omega
    by_cases hz : k = 0
    · rw [if_neg (by simp; omega)]
      exact fin
    · have e2 : l[k - 1]? = some l[k - 1] := List.getElem?_eq_getElem (by omega)
      have hp := rise_pair l hR (k - 1) k _ _ e2 e1 (by omega)
      have hW : W ((k : Int) - 1) = ((k - 1 : Nat) : Int) := by rw [W_id (by omega) (by omega)]; omega
      rw [if_pos (by simp; omega), hW, idx_ok e2, Option.bind_some, if_neg (by simp; omega)]
      exact fin
  · right
    rw [if_neg (by simpa using h)]
    rfl

/-- What Missing answers. -/
theorem missing_spec {l : List infer_Range} {total : Int} (hl : l.length ≤ 50000) (ht0 : 0 ≤ total) (ht : total ≤ B41) (hb : ∀ r, r ∈ l → 0 ≤ r.From ∧ r.From ≤ B41 ∧ 0 ≤ r.To ∧ r.To ≤ B41) :
    ∃ m, infer_Missing total l = some m ∧ Rise m ∧ (∀ x, mem x m ↔ (0 ≤ x ∧ x < total) ∧ ¬ mem x l) ∧ m.length ≤ l.length + 1 := by
  have hB : B41 = 2199023255552 := rfl
  obtain ⟨j, h1, h2, h3, h4⟩ := join_spec (l := l) (by omega) (fun r hr => by have := hb r hr; omega)
  unfold infer_Missing
  rw [h1, Option.bind_some]
  have hm : ∀ x, mem x l → 0 ≤ x ∧ x < B41 := by
    rintro x ⟨r, hr, hx⟩
    have := hb r hr; have := hx.1; have := hx.2
    omega
  have hj : ∀ r, r ∈ j → 0 ≤ r.From ∧ r.From < r.To ∧ r.To ≤ B41 := fun r hr => rise_bounds h2 (fun x hx => hm x ((h3 x).1 hx)) hr
  obtain ⟨m, g1, g2, g3, g4⟩ : ∃ m, iter (infer_Missing_L1 total j) (0, 0, []) = some m ∧ Rise m ∧ (∀ x, mem x m ↔ (0 ≤ x ∧ x < total) ∧ ¬ mem x j) ∧ m.length ≤ j.length + 1 := by
    refine iter_of (fun a : Int × Int × List infer_Range => ∃ k : Nat, a.2.1 = k ∧ k ≤ j.length ∧ 0 ≤ a.1 ∧ a.1 ≤ B41 ∧ (∀ q, q ∈ j.take k → q.To ≤ a.1) ∧ (∀ q, q ∈ j.drop k → a.1 ≤ q.From) ∧ a.2.2.length = k ∧ (∀ q, q ∈ a.2.2 → 0 ≤ q.From ∧ q.From ≤ B41 ∧ 0 ≤ q.To ∧ q.To ≤ B41) ∧ (∀ x, mem x a.2.2 ↔ (0 ≤ x ∧ x < a.1 ∧ x < total) ∧ ¬ mem x (j.take k))) (fun a => (j.length - a.2.1).toNat) _ (fun a ha => ?_)
      ⟨0, rfl, by omega, by simp, by simp [B41], fun q hq => by simp at hq, fun q hq => (hj q (List.mem_of_mem_drop hq)).1, rfl, fun q hq => by simp at hq, fun x => ⟨fun hx => absurd hx mem_nil, fun hx => by have := hx.1; simp only at this; omega⟩⟩ (lt_ROUNDS (by simp only; omega))
    obtain ⟨at_, k', out⟩ := a
    obtain ⟨k, rfl, hk, i1, i2, i3, i4, i5, i6, i7⟩ := ha
    simp only at i1 i2 i3 i4 i5 i6 i7
    simp only [infer_Missing_L1]
    by_cases h : k < j.length
    · left
      have e1 : j[k]? = some j[k] := List.getElem?_eq_getElem h
      rw [if_pos (by simpa using h), idx_ok e1, Option.bind_some]
      have hmem : j[k] ∈ j := List.getElem_mem h
      have e4 : ∀ q, q ∈ j.drop (k + 1) → j[k].To < q.From := fun q hq => by
        obtain ⟨n, hn⟩ := List.mem_iff_getElem?.1 hq
        rw [List.getElem?_drop] at hn
        exact rise_pair j h2 k (k + 1 + n) _ _ e1 hn (by omega)
      generalize hp : j[k] = p at *
      have e2 : j.take (k + 1) = j.take k ++ [p] := by rw [List.take_add_one, e1]; rfl
      have e3 : j.drop k = p :: j.drop (k + 1) := by rw [← hp]; exact List.drop_eq_getElem_cons h
      have hp1 := hj p hmem
      have hp2 := i4 p (by rw [e3]; exact List.mem_cons_self)
      rw [app_ok (by simp; omega), Option.bind_some, if_pos (show p.To > at_ by omega)]
      have hmin : (if total < p.From then total else p.From) = min total p.From := by split <;> omega
      rw [hmin]
      refine ⟨_, rfl, ⟨k + 1, ?_, by omega, by simp only; omega, by simp only; omega, fun q hq => ?_, fun q hq => ?_, by simp [i5], fun q hq => ?_, fun x => ?_⟩, ?_⟩
      · simp only; rw [W_id (by omega) (by omega)]; omega
      · rw [e2] at hq
        simp only
        rcases List.mem_append.1 hq with hq | hq
        · have := i3 q hq; omega
        · simp only [List.mem_singleton] at hq; subst hq; omega
      · have := e4 q hq; simp only; omega
      · rcases List.mem_append.1 hq with hq | hq
        · exact i6 q hq
        · simp only [List.mem_singleton] at hq; subst hq; simp only; omega
      · simp only
        rw [mem_append, mem_one, i7, e2, mem_append, mem_one]
        simp only [inR]
        constructor
        · rintro (⟨hx, hn⟩ | hx)
          · exact ⟨⟨hx.1, by omega, hx.2.2⟩, fun h => h.elim hn fun h => by omega⟩
          · refine ⟨by omega, fun h => h.elim (fun h => ?_) fun h => by omega⟩
            obtain ⟨q, hq, hx'⟩ := h
            have := i3 q hq; have := hx'.2; omega
        · rintro ⟨hx, hn⟩
          by_cases hxa : x < at_
          · exact .inl ⟨⟨hx.1, hxa, hx.2.2⟩, fun h => hn (.inl h)⟩
          · right
            refine ⟨by omega, ?_⟩
            have : ¬ (p.From ≤ x ∧ x < p.To) := fun h => hn (.inr h)
            omega
      · simp only; rw [W_id (by omega) (by omega)]; omega
    · right
      rw [if_neg (by simpa using h)]
      have : k = j.length := by omega
      subst this
      simp only [infer_Missing_K1]
      rw [app_ok (by simp; omega), Option.bind_some]
      obtain ⟨m, m1, m2, m3, m4⟩ := join_spec (l := out ++ [⟨at_, total⟩]) (by simp; omega) (fun r hr => by
        rcases List.mem_append.1 hr with hr | hr
        · have := i6 r hr; omega
        · simp only [List.mem_singleton] at hr; subst hr; simp only; omega)
      rw [m1]
      refine ⟨m, rfl, m2, fun x => ?_, by simp at m4; omega⟩
      rw [m3, mem_append, mem_one, i7, List.take_of_length_le (by omega)]
      simp only [inR]
      constructor
      · rintro (⟨hx, hn⟩ | hx)
        · exact ⟨by omega, hn⟩
        · refine ⟨by omega, ?_⟩
          rintro ⟨q, hq, hx'⟩
          have := i3 q (by rwa [List.take_of_length_le (by omega)]); have := hx'.2; omega
      · rintro ⟨hx, hn⟩
        by_cases hxa : x < at_
        · exact .inl ⟨⟨hx.1, hxa, hx.2⟩, hn⟩
        · right; omega
  exact ⟨m, g1, g2, fun x => by rw [g3, h3], by omega⟩
end Go.Vg
