/- The best guess, and its chain. -/
import Derived.Test.YthnbhhifehkggaaPd
import Derived.KernelRfl
set_option maxRecDepth 4000
set_option linter.all false
set_option linter.unusedVariables false
set_option linter.unusedSimpArgs false
namespace Go.Vg
open Go
noncomputable def hv (g : chain_Guess) (l : List chain_Cand) : List chain_Cand := by
  classical exact if h : l.length ≤ 1000 then Classical.choose (hv_eq g l h) else []
theorem hv_spec (g : chain_Guess) (l : List chain_Cand) (h : l.length ≤ 1000) :
    chain_Heaviest g l = some (hv g l, wt (hv g l)) ∧ ((hv g l = [] ∧ ∀ d, ¬ Chn g l d) ∨ (Chn g l (hv g l) ∧ ∀ d, Chn g l d → d = hv g l ∨ bet (hv g l) d)) := by
  unfold hv
  rw [dif_pos h]
  exact Classical.choose_spec (hv_eq g l h)
theorem wt_nn {c : List chain_Cand} (h : ∀ x, x ∈ c → mayB x = true) : (c.length : Int) ≤ wt c := by
  induction c with
  | nil => simp [wt]
  | cons x r ih =>
    have := ih fun y hy => h y (by simp [hy])
    have hx := mayB_iff.1 (h x (by simp))
    simp only [wt, List.length_cons]
    omega
theorem isCh_ne {g : chain_Guess} {c : List chain_Cand} (h : IsCh g c) : c ≠ [] := fun e => by subst e; exact h
theorem chn_pos {g : chain_Guess} {l c : List chain_Cand} (h : Chn g l c) : 0 < wt c := by
  have h1 := wt_nn (c := c) fun x hx => (h.2 x hx).2
  have h2 := isCh_ne h.1
  have h3 : 0 < c.length := List.length_pos_iff.2 h2
  omega
theorem hv_max {g : chain_Guess} {l d : List chain_Cand} (hl : l.length ≤ 1000) (hd : Chn g l d) : Chn g l (hv g l) ∧ wt d ≤ wt (hv g l) ∧ (d = hv g l ∨ bet (hv g l) d) := by
  rcases (hv_spec g l hl).2 with ⟨_, h⟩ | ⟨h1, h2⟩
  · exact absurd hd (h d)
  · refine ⟨h1, ?_, h2 d hd⟩
    rcases h2 d hd with e | e | ⟨e, _⟩
    · rw [e]; omega
    · omega
    · omega
theorem hv_nil {g : chain_Guess} {l : List chain_Cand} (hl : l.length ≤ 1000) : hv g l = [] ∨ Chn g l (hv g l) := by
  rcases (hv_spec g l hl).2 with ⟨h, _⟩ | ⟨h, _⟩
  · exact .inl h
  · exact .inr h
theorem hv_nonneg {g : chain_Guess} {l : List chain_Cand} (hl : l.length ≤ 1000) : 0 ≤ wt (hv g l) := by
  rcases hv_nil (g := g) hl with h | h
  · rw [h]; simp [wt]
  · have := chn_pos h; omega
def g0 : chain_Guess := ⟨⟨0, 0, 0⟩, false, 0⟩
noncomputable def bestS (l : List chain_Cand) (s : chain_Guess × List chain_Cand) (g : chain_Guess) : chain_Guess × List chain_Cand := by
  classical exact if wt (hv g l) > wt s.2 then (g, hv g l) else s
noncomputable def bst (l : List chain_Cand) : chain_Guess × List chain_Cand := (gss l).foldl (bestS l) (g0, [])
theorem best_eq (l : List chain_Cand) (hl : l.length ≤ 1000) : chain_Best l = some ((bst l).1, (bst l).2, wt (bst l).2) := by
  unfold chain_Best
  rw [guesses_eq l (by omega), Option.bind_some]
  have hgl := gss_len l
  have := iter_list (step := chain_Best_L1 l (gss l)) (A := chain_Guess × List chain_Cand × Int)
    (fun k s => (s.2, wt s.2, (k : Int), s.1.Params.Rate, s.1.Params.Channels, s.1.Params.Depth, s.1.Variable, s.1.Block)) (fun s g => .inl (bestS l s g)) (fun s => (s.1, s.2, wt s.2)) (fun _ _ => True) (gss l) (by omega) (fun k s x hx _ => ?_) (fun s _ => ?_) (s0 := (g0, [])) trivial
  · rw [foldE_inl (g := bestS l) (fun _ _ => rfl)] at this
    exact this
  · have hk := (List.getElem?_eq_some_iff.1 hx).1
    have hw : W ((k : Int) + 1) = ((k + 1 : Nat) : Int) := by rw [W_id (by omega) (by omega)]; omega
    refine ⟨?_, fun _ _ => trivial⟩
    simp only [chain_Best_L1]
    rw [if_pos (by simpa using (show (k : Int) < (gss l).length by omega)), idx_ok hx, Option.bind_some, (hv_spec x l hl).1, Option.bind_some]
    simp only [chain_Best_K2, hw, bestS, decide_eq_true_eq]
    by_cases h : wt (hv x l) > wt s.2
    · rw [if_pos h, if_pos h]
    · rw [if_neg h, if_neg h]
  · simp only [chain_Best_L1]
    rw [if_neg (by simp)]
    rfl
/-- What is known of the best one. -/
def BSpec (l : List chain_Cand) (done : List chain_Guess) (s : chain_Guess × List chain_Cand) : Prop :=
  (s = (g0, []) ∧ ∀ g, g ∈ done → hv g l = []) ∨ (s.1 ∈ done ∧ s.2 = hv s.1 l ∧ Chn s.1 l s.2 ∧ ∀ g, g ∈ done → wt (hv g l) ≤ wt s.2)
theorem bst_spec (l : List chain_Cand) (hl : l.length ≤ 1000) : BSpec l (gss l) (bst l) := by
  have key : ∀ (r done : List chain_Guess) (s : chain_Guess × List chain_Cand), BSpec l done s → BSpec l (done ++ r) (r.foldl (bestS l) s) := by
    intro r
    induction r with
    | nil => intro done s h; simpa using h
    | cons g r ih =>
      intro done s h
      have : done ++ g :: r = (done ++ [g]) ++ r := by simp
      rw [this, List.foldl_cons]
      refine ih _ _ ?_
      unfold bestS
      by_cases hw : wt (hv g l) > wt s.2
      · rw [if_pos hw]
        have hs : 0 ≤ wt s.2 := by
          rcases h with ⟨rfl, _⟩ | ⟨_, h, _⟩
          · simp [wt]
          · rw [h]; exact hv_nonneg hl
        rcases hv_nil (g := g) hl with e | e
        · rw [e] at hw; simp only [wt] at hw; omega
        · refine .inr ⟨by simp, rfl, e, fun g' hg' => ?_⟩
          rcases List.mem_append.1 hg' with q | q
          · rcases h with ⟨rfl, h⟩ | ⟨_, _, _, h⟩
            · rw [h g' q]; simp only [wt] at hw ⊢; omega
            · have := h g' q; simp only; omega
          · simp at q; subst q; exact Int.le_refl _
      · rw [if_neg hw]
        rcases h with ⟨rfl, h⟩ | ⟨h1, h2, h3, h4⟩
        · refine .inl ⟨rfl, fun g' hg' => ?_⟩
          rcases List.mem_append.1 hg' with q | q
          · exact h g' q
          · simp at q; subst q
            rcases hv_nil (g := g') hl with e | e
            · exact e
            · have := chn_pos e; simp only [wt] at hw; omega
        · refine .inr ⟨by simp [h1], h2, h3, fun g' hg' => ?_⟩
          rcases List.mem_append.1 hg' with q | q
          · exact h4 g' q
          · simp at q; subst q; omega
  have := key (gss l) [] (g0, []) (.inl ⟨rfl, by simp⟩)
  rw [List.nil_append] at this
  exact this
theorem wt_bst_nonneg (l : List chain_Cand) (hl : l.length ≤ 1000) : 0 ≤ wt (bst l).2 := by
  rcases bst_spec l hl with ⟨h, _⟩ | ⟨_, _, h, _⟩
  · rw [h]; simp [wt]
  · have := chn_pos h; omega
/-- A chain of any guess that is told is no heavier. -/
theorem bst_max {l d : List chain_Cand} {g : chain_Guess} (hl : l.length ≤ 1000) (hg : g ∈ gss l) (hd : Chn g l d) : wt d ≤ wt (bst l).2 := by
  obtain ⟨h1, h2, _⟩ := hv_max hl hd
  rcases bst_spec l hl with ⟨_, h⟩ | ⟨_, _, _, h⟩
  · rw [h g hg] at h1; exact absurd rfl (isCh_ne h1.1)
  · have := h g hg; omega

/-! ### The same lists -/
theorem same_eq (a b : List chain_Cand) (hl : a.length ≤ 100000) : jetsamlaw15_same a b = some (decide (a = b)) := by
  unfold jetsamlaw15_same
  by_cases hn : a.length = b.length
  · rw [if_neg (by simp [hn])]
    have := iter_list (step := jetsamlaw15_same_L1 a b) (A := Bool) (σ := Nat) (fun k _ => (k : Int)) (fun k x => if b[k]? = some x then .inl (k + 1) else .inr false) (fun _ => true) (fun k s => s = k ∧ a.take k = b.take k) a hl (fun k s x hx hi => ?_) (fun s _ => ?_) (s0 := 0) ⟨rfl, rfl⟩
    · rw [show (0 : Int) = ((0 : Nat) : Int) from rfl, this]
      congr 1
      have key : ∀ (r : List chain_Cand) (k : Nat), outE (fun _ => true) (foldE (fun k x => if b[k]? = some x then Sum.inl (k + 1) else Sum.inr false) r k) = decide (∀ i, i < r.length → b[k + i]? = r[i]?) := by
        intro r
        induction r with
        | nil => intro k; simp [foldE, outE]
        | cons x r ih =>
          intro k
          simp only [foldE]
          by_cases h : b[k]? = some x
          · rw [if_pos h]
            simp only [ih (k + 1)]
            rw [decide_eq_decide]
            constructor
            · intro q i hi
              cases i with
              | zero => simpa using h
              | succ i => have := q i (by simpa using hi); simpa [Nat.add_assoc, Nat.add_comm 1 i] using this
            · intro q i hi
              have := q (i + 1) (by simpa using hi)
              simpa [Nat.add_assoc, Nat.add_comm 1 i] using this
          · rw [if_neg h]
            simp only [outE]
            symm
            rw [decide_eq_false_iff_not]
            intro q
            exact h (by simpa using q 0 (by simp))
      rw [key a 0, decide_eq_decide]
      constructor
      · intro q
        apply List.ext_getElem?
        intro i
        by_cases hi : i < a.length
        · simpa using (q i hi).symm
        · rw [List.getElem?_eq_none (by omega), List.getElem?_eq_none (by omega)]
      · rintro rfl i _; simp
    · have hk := (List.getElem?_eq_some_iff.1 hx).1
      have hw : W ((k : Int) + 1) = ((k + 1 : Nat) : Int) := by rw [W_id (by omega) (by omega)]; omega
      have hb : b[k]? = some (b[k]'(by omega)) := List.getElem?_eq_getElem (by omega)
      obtain ⟨rfl, ht⟩ := hi
      refine ⟨?_, fun s' e => ?_⟩
      · simp only [jetsamlaw15_same_L1]
        rw [if_pos (by simpa using (show (s : Int) < a.length by omega)), idx_ok hx, Option.bind_some, idx_ok hb, Option.bind_some, candEq, hb]
        by_cases h : x = b[s]'(by omega)
        · rw [if_neg (by simp [h]), if_pos (by rw [h])]; simp only [hw]
        · rw [if_pos (by simp [h]), if_neg (by simp; exact fun e => h e.symm)]; rfl
      · split at e
        · rename_i h
          cases e
          exact ⟨rfl, by rw [List.take_add_one, List.take_add_one, hx, h, ht]⟩
        · cases e
    · simp only [jetsamlaw15_same_L1]
      rw [if_neg (by simp)]; rfl
  · rw [if_pos (by simp; omega)]
    congr 1; symm
    rw [decide_eq_false_iff_not]
    rintro rfl; exact hn rfl
theorem awake15 : jetsamlaw15_awake = some true := by kernel_rfl
end Go.Vg
