/- The laws on candidates: where they are, which infos are trusted, and a chain of them. -/
import Derived.Test.YtpoljomhfcmdoaaQ3
set_option maxRecDepth 4000
set_option linter.all false
set_option linter.unusedVariables false
set_option linter.unusedSimpArgs false
namespace Go.Vg
open Go

def whr (g : chain_Guess) (c : chain_Cand) : infer_Range := ⟨if g.Variable = true then c.Number else c.Number * g.Block, (if g.Variable = true then c.Number else c.Number * g.Block) + c.Block⟩
def fewC (c : chain_Cand) : Prop := 0 ≤ c.Number ∧ c.Number ≤ 1048576 ∧ 0 ≤ c.Block ∧ c.Block ≤ 1048576 ∧ 0 ≤ c.Size ∧ c.Size ≤ 1048576
theorem mul_bounds {a b : Int} (ha : 0 ≤ a) (ha2 : a ≤ 1048576) (hb : 0 ≤ b) (hb2 : b ≤ 1048576) : 0 ≤ a * b ∧ a * b ≤ 1099511627776 := by
  refine ⟨Int.mul_nonneg ha hb, ?_⟩
  have : a * b ≤ 1048576 * 1048576 := Int.mul_le_mul ha2 hb2 hb (by omega)
  omega
theorem whr_bounds {g : chain_Guess} {c : chain_Cand} (hg0 : 0 ≤ g.Block) (hg : g.Block ≤ 1048576) (hc : fewC c) : 0 ≤ (whr g c).From ∧ (whr g c).From ≤ 1099511627776 ∧ (whr g c).From ≤ (whr g c).To ∧ (whr g c).To ≤ 1099512676352 := by
  obtain ⟨h1, h2, h3, h4, _⟩ := hc
  have := mul_bounds h1 h2 hg0 hg
  simp only [whr]
  split <;> omega
theorem map_take_succ {α β : Type} {l : List α} {f : α → β} {k : Nat} {x : α} (h : l[k]? = some x) : (l.take (k + 1)).map f = (l.take k).map f ++ [f x] := by rw [List.take_add_one, h, List.map_append]; rfl
theorem where_eq {g : chain_Guess} {c : chain_Cand} (hg0 : 0 ≤ g.Block) (hg : g.Block ≤ 1048576) (hc : fewC c) : infer_Where g c = some (whr g c) := by
  obtain ⟨h1, h2, h3, h4, _⟩ := hc
  have := mul_bounds h1 h2 hg0 hg
  simp only [infer_Where, infer_Where_K1, whr]
  cases hv : g.Variable with
  | true => rw [if_neg (by simp), W_id (by omega) (by omega)]; simp
  | false => rw [if_pos (by simp), W_id (x := c.Number * g.Block) (by omega) (by omega), W_id (by omega) (by omega)]; simp

theorem few_eq (l : List chain_Cand) (hl : l.length ≤ 9223372036854775807) : ∃ b, jetsamlaw17_few l = some b ∧ (b = true → l.length ≤ 40 ∧ ∀ c, c ∈ l → fewC c) := by
  unfold jetsamlaw17_few
  refine iter_of (fun i : Int => ∃ k : Nat, i = k ∧ k ≤ l.length ∧ ∀ c, c ∈ l.take k → fewC c) (fun i => (l.length - i).toNat) _ (fun i hi => ?_) ⟨0, rfl, by omega, fun c hc => by simp at hc⟩ (lt_ROUNDS (by omega))
  obtain ⟨k, rfl, hk, hc⟩ := hi
  simp only [jetsamlaw17_few_L1]
  by_cases h : k < l.length
  · have e1 : l[k]? = some l[k] := List.getElem?_eq_getElem h
    have e2 : l.take (k + 1) = l.take k ++ [l[k]] := by rw [List.take_add_one, e1]; rfl
    rw [if_pos (by simpa using h), idx_ok e1]
    simp only [Option.bind_some]
    generalize l[k] = p at *
    have no : ∃ r, (Option.map Sum.inr (some false) : Option (Int ⊕ Bool)) = some (.inr r) ∧ (r = true → l.length ≤ 40 ∧ ∀ c, c ∈ l → fewC c) := ⟨false, rfl, fun h => by cases h⟩
    split
    · exact .inr no
    split
    · exact .inr no
    split
    · exact .inr no
    split
    · exact .inr no
    split
    · exact .inr no
    split
    · exact .inr no
    rename_i c1 c2 c3 c4 c5 c6
    simp only [decide_eq_true_eq, Int.not_lt] at c1 c2 c3 c4 c5 c6
    left
    refine ⟨_, rfl, ⟨k + 1, ?_, by omega, fun c hcm => ?_⟩, ?_⟩
    · rw [W_id (by omega) (by omega)]; omega
    · rw [e2] at hcm
      rcases List.mem_append.1 hcm with hr | hr
      · exact hc c hr
      · simp only [List.mem_singleton] at hr; subst hr; exact ⟨c1, c2, c3, c4, c5, c6⟩
    · rw [W_id (by omega) (by omega)]; omega
  · right
    rw [if_neg (by simpa using h)]
    have : k = l.length := by omega
    subst this
    rw [List.take_length] at hc
    refine ⟨_, rfl, fun hb => ⟨?_, hc⟩⟩
    simp only [decide_eq_true_eq] at hb
    omega

theorem covered_eq {g : chain_Guess} {l : List chain_Cand} (hg0 : 0 ≤ g.Block) (hg : g.Block ≤ 1048576) (hl : l.length ≤ 1000) (hc : ∀ c, c ∈ l → fewC c) : infer_Covered g l = infer_Join (l.map (whr g)) := by
  unfold infer_Covered
  obtain ⟨j, j1, -⟩ := join_spec (l := l.map (whr g)) (by simp; omega) (fun r hr => by
    obtain ⟨c, hcm, rfl⟩ := List.mem_map.1 hr
    have := whr_bounds hg0 hg (hc c hcm); unfold B41; omega)
  rw [j1]
  refine iter_eq (fun a : Int × List infer_Range => ∃ k : Nat, a.1 = k ∧ k ≤ l.length ∧ a.2 = (l.take k).map (whr g)) (fun a => (l.length - a.1).toNat) _ (fun a ha => ?_) ⟨0, rfl, by omega, by simp⟩ (lt_ROUNDS (by simp; omega))
  obtain ⟨k', out⟩ := a
  obtain ⟨k, rfl, hk, rfl⟩ := ha
  simp only [infer_Covered_L1]
  by_cases h : k < l.length
  · left
    have e1 : l[k]? = some l[k] := List.getElem?_eq_getElem h
    rw [if_pos (by simpa using h), idx_ok e1, Option.bind_some, where_eq hg0 hg (hc _ (List.getElem_mem h)), Option.bind_some, app_ok (by simp; omega), Option.bind_some]
    refine ⟨_, rfl, ⟨k + 1, ?_, by omega, ?_⟩, ?_⟩
    · simp only; rw [W_id (by omega) (by omega)]; omega
    · simp only; rw [map_take_succ e1]
    · simp only; rw [W_id (by omega) (by omega)]; omega
  · right
    rw [if_neg (by simpa using h)]
    have : k = l.length := by omega
    subst this
    simp only [infer_Covered_K1, List.take_length, j1]
    rfl

theorem law_InferWhere (g : chain_Guess) (l : List chain_Cand) (hl : l.length ≤ 9223372036854775807) : jetsamlaw17_InferWhere g l = some true := by
  unfold jetsamlaw17_InferWhere
  obtain ⟨b, b1, b2⟩ := few_eq l hl
  rw [b1, Option.bind_some]
  simp only [awake17, Option.bind_some]
  by_cases hg : b = true ∧ 0 ≤ g.Block ∧ g.Block ≤ 1048576
  case neg =>
    rw [if_pos]
    cases b
    · simp
    · simp at hg ⊢; omega
  obtain ⟨rfl, hg0, hg⟩ := hg
  rw [if_neg (by simp; omega)]
  obtain ⟨hl, hc⟩ := b2 rfl
  refine iter_eq (fun a : Int × List infer_Range => ∃ k : Nat, a.1 = k ∧ k ≤ l.length ∧ a.2 = (l.take k).map (whr g)) (fun a => (l.length - a.1).toNat) _ (fun a ha => ?_) ⟨0, rfl, by omega, by simp⟩ (lt_ROUNDS (by simp; omega))
  obtain ⟨k', out⟩ := a
  obtain ⟨k, rfl, hk, rfl⟩ := ha
  simp only [jetsamlaw17_InferWhere_L1]
  by_cases h : k < l.length
  · left
    have e1 : l[k]? = some l[k] := List.getElem?_eq_getElem h
    have hcm := hc _ (List.getElem_mem h)
    have hwb := whr_bounds hg0 hg hcm
    have hmb := mul_bounds hcm.1 hcm.2.1 hg0 hg
    have hcc := hcm
    obtain ⟨h1, h2, h3, h4, _⟩ := hcc
    rw [if_pos (by simpa using h), idx_ok e1, Option.bind_some, where_eq hg0 hg hcm, Option.bind_some, Option.bind_some]
    have K : jetsamlaw17_InferWhere_K2 l ((k : Int), (l.take k).map (whr g)) (whr g l[k]) (whr g l[k]).From = some (.inl ((k + 1 : Nat), (l.take (k + 1)).map (whr g))) := by
      simp only [jetsamlaw17_InferWhere_K2]
      rw [idx_ok e1, Option.bind_some, if_neg, app_ok (by simp; omega), Option.bind_some, W_id (by omega) (by omega)]
      · congr 3
        rw [map_take_succ e1]
      · have : W ((whr g l[k]).From + l[k].Block) = (whr g l[k]).To := by rw [W_id (by omega) (by omega)]; rfl
        rw [this]; simp
    have fin : ∃ a' : Int × List infer_Range, jetsamlaw17_InferWhere_K2 l ((k : Int), (l.take k).map (whr g)) (whr g l[k]) (whr g l[k]).From = some (.inl a') ∧ (∃ q : Nat, a'.1 = q ∧ q ≤ l.length ∧ a'.2 = (l.take q).map (whr g)) ∧ (l.length - a'.1).toNat < (l.length - (k : Int)).toNat :=
      ⟨_, K, ⟨k + 1, rfl, by omega, rfl⟩, by simp only; omega⟩
    cases hv : g.Variable with
    | true =>
      rw [if_neg (by simp)]
      have : l[k].Number = (whr g l[k]).From := by simp [whr, hv]
      rw [this]; exact fin
    | false =>
      rw [if_pos (by simp)]
      have : W (l[k].Number * g.Block) = (whr g l[k]).From := by rw [W_id (by omega) (by omega)]; simp [whr, hv]
      rw [this]; exact fin
  · right
    rw [if_neg (by simpa using h)]
    have : k = l.length := by omega
    subst this
    simp only [jetsamlaw17_InferWhere_K1, List.take_length]
    obtain ⟨j, j1, j2, j3, j4⟩ := join_spec (l := l.map (whr g)) (by simp; omega) (fun r hr => by
      obtain ⟨c, hcm, rfl⟩ := List.mem_map.1 hr
      have := whr_bounds hg0 hg (hc c hcm); unfold B41; omega)
    rw [covered_eq hg0 hg (by omega) hc, j1, Option.bind_some, Option.bind_some, ranges_same j (by simp at j4; omega), Option.bind_some, if_pos rfl, awake17]
    rfl
end Go.Vg
