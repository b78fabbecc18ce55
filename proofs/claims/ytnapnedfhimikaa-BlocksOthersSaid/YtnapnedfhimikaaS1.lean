/- Which points tell where frames begin. -/
import Derived.Test.YtnapnedfhimikaaF1
import Derived.KernelRfl
set_option maxRecDepth 4000
set_option linter.all false
set_option linter.unusedVariables false
set_option linter.unusedSimpArgs false
namespace Go.Vg
open Go

theorem awake12 : jetsamlaw12_awake = some true := by kernel_rfl

def twoV (n : Int) : Int × Int × Bool := (W (10 * n), 2, (if (if (decide (n ≥ 0)) = true then (decide (n ≤ 20)) else false) = true then ((n.tmod 2) == 0) else false))
theorem two_eq (n : Int) : jetsamlaw12_two n = some (twoV n) := rfl
def badP (p : blocks_Point) : Bool := (p.Sample != -1) && ((!(twoV p.Sample).2.2 || ((twoV p.Sample).1 != p.Offset)) || ((twoV p.Sample).2.1 != p.Count))
theorem anyTake {α : Type} {f : α → Bool} {l : List α} {k : Nat} {x : α} (h : l[k]? = some x) : (l.take (k + 1)).any f = ((l.take k).any f || f x) := by
  rw [List.take_add_one, h]; simp
theorem any_of_take {α : Type} {f : α → Bool} {l : List α} {k : Nat} (h : (l.take k).any f = true) : l.any f = true := by
  rw [List.any_eq_true] at *
  obtain ⟨x, hx, hf⟩ := h
  exact ⟨x, List.mem_of_mem_take hx, hf⟩

theorem seekable_eq (l : List blocks_Point) (hl : l.length ≤ 1000000) : blocks_Seekable l jetsamlaw12_two = some (if l.any badP = true then 12 else 0) := by
  unfold blocks_Seekable
  refine iter_eq (fun i : Int => ∃ k : Nat, i = k ∧ k ≤ l.length ∧ (l.take k).any badP = false) (fun i => (l.length - i).toNat) _ (fun i hi => ?_) ⟨0, rfl, by omega, by simp⟩ (lt_ROUNDS (by omega))
  obtain ⟨k, rfl, hk, hn⟩ := hi
  simp only [blocks_Seekable_L1]
  by_cases h : k < l.length
  · have e1 : l[k]? = some l[k] := List.getElem?_eq_getElem h
    have ht := anyTake (f := badP) e1
    rw [hn, Bool.false_or] at ht
    rw [if_pos (by simpa using h), idx_ok e1, Option.bind_some]
    have go : badP l[k] = false → (∃ a' : Int, (some (.inl (W ((k : Int) + 1))) : Option (Int ⊕ Int)) = some (.inl a') ∧ (∃ q : Nat, a' = q ∧ q ≤ l.length ∧ (l.take q).any badP = false) ∧ (l.length - a').toNat < (l.length - (k : Int)).toNat) := fun hb => by
      refine ⟨_, rfl, ⟨k + 1, ?_, by omega, by rw [ht, hb]⟩, ?_⟩
      · rw [W_id (by omega) (by omega)]; omega
      · rw [W_id (by omega) (by omega)]; omega
    by_cases h1 : l[k].Sample = -1
    · left
      rw [if_pos (by simpa using h1)]
      exact go (by simp [badP, h1])
    · rw [if_neg (by simpa using h1), two_eq, Option.bind_some]
      have hb : badP l[k] = ((!(twoV l[k].Sample).2.2 || ((twoV l[k].Sample).1 != l[k].Offset)) || ((twoV l[k].Sample).2.1 != l[k].Count)) := by simp [badP, h1]
      have hc : (if (if (!(twoV l[k].Sample).2.2) = true then true else ((twoV l[k].Sample).1 != l[k].Offset)) = true then true else ((twoV l[k].Sample).2.1 != l[k].Count)) = badP l[k] := by
        rw [hb]
        cases (twoV l[k].Sample).2.2 <;> cases ((twoV l[k].Sample).1 != l[k].Offset) <;> rfl
      rw [hc]
      cases hbv : badP l[k] with
      | true =>
        right
        rw [if_pos rfl, if_pos (any_of_take (k := k + 1) (by rw [ht, hbv]))]
        rfl
      | false =>
        left
        rw [if_neg (by simp)]
        exact go hbv
  · right
    rw [if_neg (by simpa using h)]
    have : k = l.length := by omega
    subst this
    rw [List.take_length] at hn
    rw [hn]
    rfl

theorem law_BlocksSeeks (l : List blocks_Point) : jetsamlaw12_BlocksSeeks l = some true := by
  unfold jetsamlaw12_BlocksSeeks
  simp only [awake12, Option.bind_some]
  by_cases hl : l.length ≤ 40
  case neg => rw [if_pos (by simp; omega)]
  rw [if_neg (by simp; omega)]
  refine iter_eq (fun a : Int × Int => ∃ k : Nat, a.2 = k ∧ k ≤ l.length ∧ a.1 = (if (l.take k).any badP = true then 12 else 0)) (fun a => (l.length - a.2).toNat) _ (fun a ha => ?_) ⟨0, rfl, by omega, by simp⟩ (lt_ROUNDS (by simp only; omega))
  obtain ⟨w, k'⟩ := a
  obtain ⟨k, rfl, hk, rfl⟩ := ha
  simp only [jetsamlaw12_BlocksSeeks_L1, jetsamlaw12_BlocksSeeks_K2]
  by_cases h : k < l.length
  · left
    have e1 : l[k]? = some l[k] := List.getElem?_eq_getElem h
    have ht := anyTake (f := badP) e1
    rw [if_pos (by simpa using h), idx_ok e1]
    simp only [Option.bind_some, two_eq]
    have hW : W ((k : Int) + 1) = (k + 1 : Nat) := by rw [W_id (by omega) (by omega)]; omega
    have go : ∀ v : Int, v = (if badP l[k] = true then 12 else (if (l.take k).any badP = true then 12 else 0)) → ∃ a' : Int × Int, (some (.inl (v, W ((k : Int) + 1))) : Option ((Int × Int) ⊕ Bool)) = some (.inl a') ∧ (∃ q : Nat, a'.2 = q ∧ q ≤ l.length ∧ a'.1 = (if (l.take q).any badP = true then 12 else 0)) ∧ (l.length - a'.2).toNat < (l.length - (k : Int)).toNat := fun v hv => by
      refine ⟨_, rfl, ⟨k + 1, hW, by omega, ?_⟩, by simp only; rw [hW]; omega⟩
      simp only
      rw [ht, hv]
      cases badP l[k] <;> cases (l.take k).any badP <;> rfl
    generalize hp : l[k] = p at *
    have hb : badP p = ((p.Sample != -1) && ((!(twoV p.Sample).2.2 || ((twoV p.Sample).1 != p.Offset)) || ((twoV p.Sample).2.1 != p.Count))) := rfl
    generalize (p.Sample != -1) = b1 at *
    generalize (twoV p.Sample).2.2 = b2 at *
    generalize ((twoV p.Sample).1 != p.Offset) = b3 at *
    generalize ((twoV p.Sample).2.1 != p.Count) = b4 at *
    cases b1 <;> cases b2 <;> cases b3 <;> cases b4 <;> simp only [Bool.not_true, Bool.not_false, Bool.false_eq_true, if_true, if_false] <;> exact go _ (by rw [hb]; simp)
  · right
    rw [if_neg (by simpa using h)]
    have : k = l.length := by omega
    subst this
    rw [List.take_length]
    simp only [jetsamlaw12_BlocksSeeks_K1, seekable_eq l (by omega), Option.bind_some, blocks_Seekable_nil1, awake12]
    rw [if_pos (by simp), if_pos (by decide)]
    rfl
end Go.Vg
