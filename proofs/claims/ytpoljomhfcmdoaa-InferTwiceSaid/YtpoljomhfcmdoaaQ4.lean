/- The laws on ranges: what is missing of what is missing; what is covered and what is missing. -/
import Derived.Test.YtpoljomhfcmdoaaQ3
set_option maxRecDepth 4000
set_option linter.all false
set_option linter.unusedVariables false
set_option linter.unusedSimpArgs false
namespace Go.Vg
open Go

theorem law_InferTwice (l : List infer_Range) (total : Int) : jetsamlaw17_InferTwice l total = some true := by
  have hB : B41 = 2199023255552 := rfl
  unfold jetsamlaw17_InferTwice
  simp only [awake17, Option.bind_some]
  by_cases hg : l.length ≤ 30 ∧ 0 ≤ total ∧ total ≤ 1099511627776
  case neg => rw [if_pos (by simp; omega)]
  rw [if_neg (by simp; omega)]
  obtain ⟨hl, ht0, ht⟩ := hg
  refine iter_eq (fun a : Int × List infer_Range => ∃ k : Nat, a.1 = k ∧ k ≤ l.length ∧ a.2.length = k ∧ (∀ r, r ∈ l.take k → 0 ≤ r.From ∧ r.From ≤ 1099511627776 ∧ 0 ≤ r.To ∧ r.To ≤ 1099511627776) ∧ (∀ x, mem x a.2 ↔ x < total ∧ mem x (l.take k)) ∧ (∀ r, r ∈ a.2 → 0 ≤ r.From ∧ r.From ≤ 1099511627776 ∧ 0 ≤ r.To ∧ r.To ≤ 1099511627776)) (fun a => (l.length - a.1).toNat) _ (fun a ha => ?_)
    ⟨0, rfl, by omega, rfl, fun r hr => by simp at hr, fun x => by simp [mem_nil], fun r hr => by simp at hr⟩ (lt_ROUNDS (by simp; omega))
  obtain ⟨k', out⟩ := a
  obtain ⟨k, rfl, hk, hlen, hb, hm, hbo⟩ := ha
  simp only at hlen hm hbo
  simp only [jetsamlaw17_InferTwice_L1, awake17, Option.bind_some]
  by_cases h : k < l.length
  · have e1 : l[k]? = some l[k] := List.getElem?_eq_getElem h
    rw [if_pos (by simpa using h), idx_ok e1]
    simp only [Option.bind_some]
    have e2 : l.take (k + 1) = l.take k ++ [l[k]] := by rw [List.take_add_one, e1]; rfl
    generalize l[k] = p at *
    split
    · exact .inr rfl
    split
    · exact .inr rfl
    split
    · exact .inr rfl
    split
    · exact .inr rfl
    rename_i c1 c2 c3 c4
    simp only [decide_eq_true_eq, Int.not_lt] at c1 c2 c3 c4
    left
    rw [app_ok (by simp; omega), Option.bind_some]
    have hmin : (if total < p.To then total else p.To) = min total p.To := by split <;> omega
    rw [hmin]
    refine ⟨_, rfl, ⟨k + 1, ?_, by omega, by simp [hlen], fun r hr => ?_, fun x => ?_, fun r hr => ?_⟩, ?_⟩
    · simp only; rw [W_id (by omega) (by omega)]; omega
    · rw [e2] at hr
      rcases List.mem_append.1 hr with hr | hr
      · exact hb r hr
      · simp only [List.mem_singleton] at hr; subst hr; omega
    · simp only
      rw [mem_append, mem_one, hm, e2, mem_append, mem_one]
      simp only [inR]
      constructor
      · rintro (h | h)
        · exact ⟨h.1, .inl h.2⟩
        · exact ⟨by omega, .inr (by omega)⟩
      · rintro ⟨h9, h | h⟩
        · exact .inl ⟨h9, h⟩
        · exact .inr (by omega)
    · rcases List.mem_append.1 hr with hr | hr
      · exact hbo r hr
      · simp only [List.mem_singleton] at hr; subst hr; simp only; omega
    · simp only; rw [W_id (by omega) (by omega)]; omega
  · right
    rw [if_neg (by simpa using h)]
    have : k = l.length := by omega
    subst this
    simp only [List.take_length] at hb hm
    simp only [jetsamlaw17_InferTwice_K1, awake17, Option.bind_some]
    obtain ⟨m, m1, m2, m3, m4⟩ := missing_spec (l := l) (total := total) (by omega) ht0 (by omega) (fun r hr => by have := hb r hr; omega)
    rw [m1, Option.bind_some]
    have hmb : ∀ r, r ∈ m → 0 ≤ r.From ∧ r.From < r.To ∧ r.To ≤ total := fun r hr => rise_bounds m2 (fun x hx => ((m3 x).1 hx).1) hr
    obtain ⟨q, q1, q2, q3, q4⟩ := missing_spec (l := m) (total := total) (by omega) ht0 (by omega) (fun r hr => by have := hmb r hr; omega)
    rw [q1, Option.bind_some]
    obtain ⟨j, j1, j2, j3, j4⟩ := join_spec (l := out) (by omega) (fun r hr => by have := hbo r hr; omega)
    rw [j1, Option.bind_some]
    have e : q = j := rise_unique q j q2 j2 fun x => by
      rw [q3, m3, j3, hm]
      constructor
      · rintro ⟨h1, h2⟩
        exact ⟨h1.2, Classical.not_not.1 fun h => h2 ⟨h1, h⟩⟩
      · rintro ⟨h1, h2⟩
        refine ⟨⟨?_, h1⟩, fun h => h.2 h2⟩
        obtain ⟨r, hr, hx⟩ := h2
        have := hb r hr; have := hx.1; omega
    subst e
    rw [ranges_same q (by omega), Option.bind_some, if_pos rfl]
    rfl

/-! ### InferParts -/
theorem lens_take {l : List infer_Range} {t : Int} {k : Nat} {p : infer_Range} (h : l[k]? = some p) : lens t (l.take (k + 1)) = lens t (l.take k) + (min p.To t - min p.From t) := by
  rw [List.take_add_one, h]
  simp [lens]
theorem lens_bounds {l : List infer_Range} {t : Int} (h : Rise l) (hb : ∀ r, r ∈ l → 0 ≤ r.From ∧ r.To ≤ 1099511627776) (ht0 : 0 ≤ t) : ∀ (k : Nat), k ≤ l.length → 0 ≤ lens t (l.take k) ∧ lens t (l.take k) ≤ k * 1099511627776
  | 0, _ => by simp [lens]
  | k + 1, hk => by
    have e1 : l[k]? = some l[k] := List.getElem?_eq_getElem (by omega)
    have ih := lens_bounds h hb ht0 k (by omega)
    rw [lens_take e1]
    have := hb l[k] (List.getElem_mem _)
    have := rise_ne h (List.getElem_mem (show k < l.length by omega))
    omega

section
variable {a b : List infer_Range} {total : Int} (ht0 : 0 ≤ total) (ht : total ≤ 1099511627776) (ha : Rise a) (hb : Rise b) (hal : a.length ≤ 100) (hbl : b.length ≤ 100) (hab : ∀ r, r ∈ a → 0 ≤ r.From ∧ r.To ≤ 1099511627776) (hbb : ∀ r, r ∈ b → 0 ≤ r.From ∧ r.To ≤ total)
  (hd : ∀ x, mem x b ↔ (0 ≤ x ∧ x < total) ∧ ¬ mem x a)
include ht0 ht ha hb hal hbl hab hbb hd

theorem parts_K3 : jetsamlaw17_InferParts_K3 total a total = some true := by
  simp only [jetsamlaw17_InferParts_K3, awake17, Option.bind_some]
  rw [if_pos (by simp)]
  obtain ⟨j, j1, j2, j3, j4⟩ := join_spec (l := a) (by omega) (fun r hr => by have := hab r hr; have := rise_ne ha hr; unfold B41; omega)
  have e : j = a := rise_unique j a j2 ha j3
  subst e
  rw [j1, Option.bind_some, ranges_same j (by omega), Option.bind_some, if_pos rfl]
theorem parts_sum : lens total b + lens total a = total := by
  obtain ⟨n, rfl⟩ := Int.eq_ofNat_of_zero_le ht0
  refine lens_all ha hb (fun r hr => (hab r hr).1) (fun r hr => (hbb r hr).1) fun x hx => ?_
  rw [hd]
  exact ⟨fun h => h.2, fun h => ⟨by omega, h⟩⟩
theorem parts_K2 : jetsamlaw17_InferParts_K2 total a (lens total b) = some true := by
  have hs := parts_sum ht0 ht ha hb hal hbl hab hbb hd
  unfold jetsamlaw17_InferParts_K2
  refine iter_eq (fun q : Int × Int => ∃ k : Nat, q.2 = k ∧ k ≤ a.length ∧ q.1 = lens total b + lens total (a.take k)) (fun q => (a.length - q.2).toNat) _ (fun q hq => ?_) ⟨0, rfl, by omega, by simp [lens]⟩ (lt_ROUNDS (by simp; omega))
  obtain ⟨s, k'⟩ := q
  obtain ⟨k, rfl, hk, rfl⟩ := hq
  simp only [jetsamlaw17_InferParts_L1]
  by_cases h : k < a.length
  · left
    have e1 : a[k]? = some a[k] := List.getElem?_eq_getElem h
    rw [if_pos (by simpa using h), idx_ok e1, Option.bind_some, Option.bind_some]
    have h1 := hab _ (List.getElem_mem h)
    have h2 := rise_ne ha (List.getElem_mem h)
    have h3 := lens_bounds ha hab ht0 k hk
    have h4 := lens_bounds ha hab ht0 (k + 1) (by omega)
    have h6 : k * 1099511627776 ≤ (100 * 1099511627776 : Nat) := Nat.mul_le_mul_right _ (by omega)
    have h7 : (k + 1) * 1099511627776 ≤ (101 * 1099511627776 : Nat) := Nat.mul_le_mul_right _ (by omega)
    rw [lens_take e1] at h4
    generalize a[k] = p at *
    have hb5 := (lens_bounds hb (fun r hr => by have := hbb r hr; omega) ht0 b.length (by omega) : 0 ≤ lens total (b.take b.length) ∧ _)
    rw [List.take_length] at hb5
    have h8 : b.length * 1099511627776 ≤ (100 * 1099511627776 : Nat) := Nat.mul_le_mul_right _ (by omega)
    have hW : W ((if total < p.To then total else p.To) - (if total < p.From then total else p.From)) = min p.To total - min p.From total := by
      rw [W_id (by split <;> split <;> omega) (by split <;> split <;> omega)]
      split <;> split <;> omega
    have hW2 : (if min p.To total - min p.From total > 0 then min p.To total - min p.From total else 0) = min p.To total - min p.From total := by split <;> omega
    rw [hW, hW2]
    refine ⟨_, rfl, ⟨k + 1, ?_, by omega, ?_⟩, ?_⟩
    · simp only; rw [W_id (by omega) (by omega)]; omega
    · simp only; rw [lens_take e1, W_id (by omega) (by omega)]; omega
    · simp only; rw [W_id (by omega) (by omega)]; omega
  · right
    rw [if_neg (by simpa using h)]
    have : k = a.length := by omega
    subst this
    rw [List.take_length, hs, parts_K3 ht0 ht ha hb hal hbl hab hbb hd]
    rfl
/-- None of what is missing is covered. -/
theorem parts_L3 {i : Nat} {s : Int} {r22 : Int} {p24 : infer_Range} {p : infer_Range} (hp : b[i]? = some p) : iter (jetsamlaw17_InferParts_L3 total a b (s, (i : Int)) r22 p24) 0 = some (.inl (W (s + r22), W ((i : Int) + 1))) := by
  refine iter_eq (fun q : Int => ∃ k : Nat, q = k ∧ k ≤ a.length) (fun q => (a.length - q).toNat) _ (fun q hq => ?_) ⟨0, rfl, by omega⟩ (lt_ROUNDS (by omega))
  obtain ⟨k, rfl, hk⟩ := hq
  simp only [jetsamlaw17_InferParts_L3]
  by_cases h : k < a.length
  · left
    have e1 : a[k]? = some a[k] := List.getElem?_eq_getElem h
    rw [if_pos (by simpa using h), idx_ok hp, Option.bind_some, idx_ok e1, Option.bind_some]
    have fin : ∃ a' : Int, (some (.inl (W ((k : Int) + 1))) : Option (Int ⊕ ((Int × Int) ⊕ Bool))) = some (.inl a') ∧ (∃ q : Nat, a' = q ∧ q ≤ a.length) ∧ (a.length - a').toNat < (a.length - (k : Int)).toNat := by
      refine ⟨_, rfl, ⟨k + 1, ?_, by omega⟩, ?_⟩
      · rw [W_id (by omega) (by omega)]; omega
      · rw [W_id (by omega) (by omega)]; omega
    split
    · rename_i c1
      simp only [decide_eq_true_eq] at c1
      rw [Option.bind_some, Option.bind_some, if_neg]
      · exact fin
      · simp only [decide_eq_true_eq]
        intro c2
        have hm := List.getElem_mem h
        have hmp : p ∈ b := List.mem_of_getElem? hp
        have h1 := rise_ne ha hm
        have h2 := rise_ne hb hmp
        have := (hd (max p.From a[k].From)).1 ⟨p, hmp, by omega, by omega⟩
        exact this.2 ⟨_, hm, by omega, by omega⟩
    · exact fin
  · right
    rw [if_neg (by simpa using h)]
    rfl
theorem parts_L2 : iter (jetsamlaw17_InferParts_L2 total a b) (0, 0) = some true := by
  refine iter_eq (fun q : Int × Int => ∃ k : Nat, q.2 = k ∧ k ≤ b.length ∧ q.1 = lens total (b.take k)) (fun q => (b.length - q.2).toNat) _ (fun q hq => ?_) ⟨0, rfl, by omega, by simp [lens]⟩ (lt_ROUNDS (by simp; omega))
  obtain ⟨s, k'⟩ := q
  obtain ⟨k, rfl, hk, rfl⟩ := hq
  simp only [jetsamlaw17_InferParts_L2]
  have hb' : ∀ r, r ∈ b → 0 ≤ r.From ∧ r.To ≤ 1099511627776 := fun r hr => by have := hbb r hr; omega
  by_cases h : k < b.length
  · left
    have e1 : b[k]? = some b[k] := List.getElem?_eq_getElem h
    have h1 := hbb _ (List.getElem_mem h)
    have h2 := rise_ne hb (List.getElem_mem h)
    have h4 := lens_bounds hb hb' ht0 (k + 1) (by omega)
    have h7 : (k + 1) * 1099511627776 ≤ (101 * 1099511627776 : Nat) := Nat.mul_le_mul_right _ (by omega)
    rw [if_pos (by simpa using h), idx_ok e1, Option.bind_some, len_eq (W_id (by omega) (by omega)), Option.bind_some, Option.bind_some, if_neg (by simp; omega), Option.bind_some, if_neg (by simp; omega), parts_L3 ht0 ht ha hb hal hbl hab hbb hd e1]
    rw [lens_take e1] at h4
    refine ⟨_, rfl, ⟨k + 1, ?_, by omega, ?_⟩, ?_⟩
    · simp only; rw [W_id (by omega) (by omega)]; omega
    · simp only; rw [lens_take e1, W_id (by omega) (by omega)]; omega
    · simp only; rw [W_id (by omega) (by omega)]; omega
  · right
    rw [if_neg (by simpa using h)]
    have : k = b.length := by omega
    subst this
    rw [List.take_length, parts_K2 ht0 ht ha hb hal hbl hab hbb hd]
    rfl
end

theorem law_InferParts (l : List infer_Range) (total from_ : Int) (hf : -9223372036854775808 ≤ from_) : jetsamlaw17_InferParts l total from_ = some true := by
  have hB : B41 = 2199023255552 := rfl
  unfold jetsamlaw17_InferParts
  simp only [awake17, Option.bind_some]
  by_cases hg : l.length ≤ 30 ∧ 0 < l.length ∧ 0 ≤ total ∧ total ≤ 1099511627776
  case neg =>
    rw [if_pos]
    by_cases h0 : l.length = 0
    · simp [List.length_eq_zero_iff.1 h0]
    · simp; omega
  rw [if_neg (by
    have h0 : l ≠ [] := fun h => by simp [h] at hg
    simp [h0]; omega)]
  obtain ⟨hl, hl0, ht0, ht⟩ := hg
  obtain ⟨s, hs, hse⟩ : ∃ s : Nat, s < l.length ∧ (W ((from_.tmod (l.length : Int)) + (l.length : Int))).tmod (l.length : Int) = s := by
    have h1 : (from_.tmod (l.length : Int)) < l.length ∧ -(l.length : Int) < from_.tmod (l.length : Int) := by
      constructor
      · exact Int.tmod_lt_of_pos _ (by omega)
      · have := Int.lt_tmod_of_pos from_ (b := (l.length : Int)) (by omega); exact this
    rw [W_id (x := from_.tmod (l.length : Int) + l.length) (by omega) (by omega), Int.tmod_eq_emod_of_nonneg (by omega)]
    have h2 := Int.emod_nonneg (from_.tmod (l.length : Int) + l.length) (b := (l.length : Int)) (by omega)
    have h3 := Int.emod_lt_of_pos (from_.tmod (l.length : Int) + l.length) (b := (l.length : Int)) (by omega)
    exact ⟨((from_.tmod (l.length : Int) + l.length) % l.length).toNat, by omega, by omega⟩
  refine iter_eq (fun a : Int × List infer_Range => ∃ k : Nat, a.1 = k ∧ k ≤ l.length ∧ a.2.length = k ∧ (∀ r, r ∈ l.take k → 0 ≤ r.From ∧ r.From ≤ 1099511627776 ∧ 0 ≤ r.To ∧ r.To ≤ 1099511627776) ∧ (∀ i, i < k → a.2[i]? = l[(s + i) % l.length]?)) (fun a => (l.length - a.1).toNat) _ (fun a ha => ?_)
    ⟨0, rfl, by omega, rfl, fun r hr => by simp at hr, fun i hi => by omega⟩ (lt_ROUNDS (by simp; omega))
  obtain ⟨k', out⟩ := a
  obtain ⟨k, rfl, hk, hlen, hb, hm⟩ := ha
  simp only at hlen hm
  simp only [jetsamlaw17_InferParts_L4, awake17, Option.bind_some]
  by_cases h : k < l.length
  · have e1 : l[k]? = some l[k] := List.getElem?_eq_getElem h
    rw [if_pos (by simpa using h), idx_ok e1]
    simp only [Option.bind_some]
    have e2 : l.take (k + 1) = l.take k ++ [l[k]] := by rw [List.take_add_one, e1]; rfl
    generalize l[k] = p at *
    split
    · exact .inr rfl
    split
    · exact .inr rfl
    split
    · exact .inr rfl
    split
    · exact .inr rfl
    rename_i c1 c2 c3 c4
    simp only [decide_eq_true_eq, Int.not_lt] at c1 c2 c3 c4
    left
    have hne : ((l.length : Int) != 0) = true := by simp; intro h0; simp [h0] at hl0
    rw [need_ok hne, need_ok hne, need_ok hne]
    have hix : (W (((W ((from_.tmod (l.length : Int)) + (l.length : Int))).tmod (l.length : Int)) + (k : Int))).tmod (l.length : Int) = (((s + k) % l.length : Nat) : Int) := by
      rw [hse, W_id (by omega) (by omega), Int.tmod_eq_emod_of_nonneg (by omega)]
      push_cast; rfl
    have hlt : (s + k) % l.length < l.length := Nat.mod_lt _ hl0
    have e5 : l[(s + k) % l.length]? = some l[(s + k) % l.length] := List.getElem?_eq_getElem hlt
    rw [hix, idx_ok e5, Option.bind_some, app_ok (by simp; omega), Option.bind_some]
    refine ⟨_, rfl, ⟨k + 1, ?_, by omega, by simp [hlen], fun r hr => ?_, fun i hi => ?_⟩, ?_⟩
    · simp only; rw [W_id (by omega) (by omega)]; omega
    · rw [e2] at hr
      rcases List.mem_append.1 hr with hr | hr
      · exact hb r hr
      · simp only [List.mem_singleton] at hr; subst hr; omega
    · simp only
      rw [List.getElem?_append]
      split
      · exact hm i (by omega)
      · have : i = k := by omega
        subst this
        simp [hlen]
    · simp only; rw [W_id (by omega) (by omega)]; omega
  · right
    rw [if_neg (by simpa using h)]
    have : k = l.length := by omega
    subst this
    simp only [List.take_length] at hb
    have hperm : ∀ r, r ∈ out ↔ r ∈ l := fun r => by
      constructor
      · intro hr
        obtain ⟨i, hi⟩ := List.mem_iff_getElem?.1 hr
        have hil : i < out.length := (List.getElem?_eq_some_iff.1 hi).1
        rw [hm i (by omega)] at hi
        exact List.mem_of_getElem? hi
      · intro hr
        obtain ⟨i, hi⟩ := List.mem_iff_getElem?.1 hr
        have hil : i < l.length := (List.getElem?_eq_some_iff.1 hi).1
        by_cases hc : s ≤ i
        · refine List.mem_of_getElem? (i := i - s) ?_
          rw [hm (i - s) (by omega), show (s + (i - s)) % l.length = i by rw [show s + (i - s) = i by omega]; exact Nat.mod_eq_of_lt hil]
          exact hi
        · refine List.mem_of_getElem? (i := i + l.length - s) ?_
          rw [hm (i + l.length - s) (by omega), show (s + (i + l.length - s)) % l.length = i by
            rw [show s + (i + l.length - s) = i + l.length by omega, Nat.add_mod_right]; exact Nat.mod_eq_of_lt hil]
          exact hi
    have hob : ∀ r, r ∈ out → 0 ≤ r.From ∧ r.From ≤ 1099511627776 ∧ 0 ≤ r.To ∧ r.To ≤ 1099511627776 := fun r hr => hb r ((hperm r).1 hr)
    simp only [jetsamlaw17_InferParts_K1]
    obtain ⟨a, a1, a2, a3, a4⟩ := join_spec (l := l) (by omega) (fun r hr => by have := hb r hr; omega)
    obtain ⟨b, b1, b2, b3, b4⟩ := missing_spec (l := l) (total := total) (by omega) ht0 (by omega) (fun r hr => by have := hb r hr; omega)
    obtain ⟨a', a1', a2', a3', a4'⟩ := join_spec (l := out) (by omega) (fun r hr => by have := hob r hr; omega)
    obtain ⟨b', b1', b2', b3', b4'⟩ := missing_spec (l := out) (total := total) (by omega) ht0 (by omega) (fun r hr => by have := hob r hr; omega)
    have ea : a' = a := rise_unique a' a a2' a2 fun x => by rw [a3', a3, mem_perm hperm]
    have eb : b' = b := rise_unique b' b b2' b2 fun x => by rw [b3', b3, mem_perm hperm]
    subst ea; subst eb
    have hab : ∀ r, r ∈ a' → 0 ≤ r.From ∧ r.From < r.To ∧ r.To ≤ 1099511627776 := fun r hr => rise_bounds a2 (fun x hx => by
      obtain ⟨q, hq, hx⟩ := (a3 x).1 hx
      have := hb q hq; have := hx.1; have := hx.2; omega) hr
    have hbb : ∀ r, r ∈ b' → 0 ≤ r.From ∧ r.From < r.To ∧ r.To ≤ total := fun r hr => rise_bounds b2 (fun x hx => ((b3 x).1 hx).1) hr
    rw [a1, Option.bind_some, b1, Option.bind_some, a1', Option.bind_some, ranges_same a' (by omega), Option.bind_some, if_neg (by simp), b1', Option.bind_some, ranges_same b' (by omega), Option.bind_some, if_neg (by simp),
      rises_eq a2 (fun r hr => by have := hab r hr; omega) (by omega), Option.bind_some, if_neg (by simp), rises_eq b2 (fun r hr => by have := hbb r hr; omega) (by omega), Option.bind_some, if_neg (by simp),
      parts_L2 ht0 ht a2 b2 (by omega) (by omega) (fun r hr => by have := hab r hr; omega) (fun r hr => by have := hbb r hr; omega) (fun x => by rw [b3, a3])]
    rfl
end Go.Vg
