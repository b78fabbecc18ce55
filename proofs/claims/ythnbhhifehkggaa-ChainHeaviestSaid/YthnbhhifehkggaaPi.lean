/- The reference's chains: weights, which ones are right, which one is better; lists in order. -/
import Derived.Test.YthnbhhifehkggaaPh
set_option maxRecDepth 4000
set_option linter.all false
set_option linter.unusedVariables false
set_option linter.unusedSimpArgs false
namespace Go.Vg
open Go
theorem getmap {α β : Type} {f : α → β} {l : List α} {k : Nat} {x : α} (h : l[k]? = some x) : (l.map f)[k]? = some (f x) := by rw [List.getElem?_map, h]; rfl
theorem weightR_eq (l : List chain_Cand) (hm : ∀ x, x ∈ l → mayB x = true) (hl : l.length ≤ 1000) : jetsamref15_Weight (l.map cA) = some (wt l) := by
  unfold jetsamref15_Weight
  refine iter_eq (fun a => ∃ k : Nat, a = (wt (l.take k), (k : Int)) ∧ k ≤ l.length) (fun a => l.length - a.2.toNat) _ (fun a ha => ?_) (a0 := ((0 : Int), (0 : Int))) ⟨0, rfl, Nat.zero_le _⟩ (lt_ROUNDS (by simp only; omega))
  obtain ⟨k, rfl, hk⟩ := ha
  simp only [jetsamref15_Weight_L1, List.length_map]
  by_cases hkm : k < l.length
  · left
    have hx : l[k]? = some l[k] := List.getElem?_eq_getElem hkm
    have hw : W ((k : Int) + 1) = ((k + 1 : Nat) : Int) := by rw [W_id (by omega) (by omega)]; omega
    rw [if_pos (by simpa using (show (k : Int) < l.length by omega)), idx_ok (getmap hx), Option.bind_some, hw, (cA_get _).2.1, sumW hm hl hx]
    exact ⟨_, rfl, ⟨k + 1, rfl, by omega⟩, by simp only; omega⟩
  · right
    have : k = l.length := by omega
    subst this
    rw [if_neg (by simp)]
    simp only [jetsamref15_Weight_K1, List.take_length, Option.map_some]
theorem rightR_eq (g : chain_Guess) (l : List chain_Cand) (hl : l.length ≤ 1000) : jetsamref15_Right (gA g) (l.map cA) = some (rsB g none l && decide (0 < l.length)) := by
  unfold jetsamref15_Right
  have := iter_list (step := jetsamref15_Right_L1 (gA g) (l.map cA)) (A := Bool) (fun k _ => (k : Int)) (rsF g) (fun _ => decide (0 < l.length)) (fun k s => s.2 = l.length - k ∧ s.1 = (if k = 0 then none else l[k - 1]?) ∧ ∀ a, s.1 = some a → mayB a = true) l (by omega) (fun k s x hx hi => ?_) (fun s _ => ?_) (s0 := (none, l.length)) ⟨rfl, rfl, by simp⟩
  · rw [show (0 : Int) = ((0 : Nat) : Int) from rfl, this, rsF_fold]
  · have hk := (List.getElem?_eq_some_iff.1 hx).1
    have hw : W ((k : Int) + 1) = ((k + 1 : Nat) : Int) := by rw [W_id (by omega) (by omega)]; omega
    have hw3 : W ((k : Int) - 1) = (k : Int) - 1 := W_id (by omega) (by omega)
    obtain ⟨p, m⟩ := s
    obtain ⟨i1, i2, i3⟩ := hi
    simp only at i1 i2 i3
    subst i1
    have hlast : (((k + 1 : Nat) : Int) == (l.length : Int)) = decide (l.length - k = 1) := by
      rw [Bool.eq_iff_iff]; simp only [beq_iff_eq, decide_eq_true_eq]; omega
    simp only [jetsamref15_Right_L1, rsF, hw, List.length_map, hlast]
    rw [if_pos (by simpa using (show (k : Int) < l.length by omega)), idx_ok (getmap hx)]
    simp only [Option.bind_some, mayR_eq, fitsR_eq]
    cases hm : mayB x with
    | false => simp [jetsamref15_Right_K2]
    | true =>
      simp only [Bool.not_true, Bool.false_eq_true, if_false, Bool.true_and]
      cases hf : fitB g x (decide (l.length - k = 1)) with
      | false => simp [jetsamref15_Right_K2]
      | true =>
        simp only [Bool.not_true, Bool.false_eq_true, if_false, Bool.true_and]
        cases k with
        | zero =>
          simp only [if_true] at i2
          subst i2
          have hw' : W (((0 : Nat) : Int) + 1) = ((0 + 1 : Nat) : Int) := hw
          refine ⟨?_, fun s' e => ?_⟩
          · rw [if_neg (by simp)]
            simp only [jetsamref15_Right_K2, prevOk, Bool.false_eq_true, if_false, if_true, hw']
          · simp only [prevOk, if_true] at e
            cases e
            exact ⟨rfl, by simp [hx], fun a e => by cases e; exact hm⟩
        | succ j =>
          simp only [Nat.add_one_ne_zero, if_false, Nat.add_sub_cancel] at i2
          have hj : l[j]? = some (l[j]'(by omega)) := List.getElem?_eq_getElem (by omega)
          rw [hj] at i2
          subst i2
          have e1 : ((j + 1 : Nat) : Int) - 1 = (j : Int) := by omega
          rw [if_pos (by simp), hw3, e1, idx_ok (getmap hj), Option.bind_some, followsR_eq _ _ (i3 _ rfl), Option.bind_some]
          refine ⟨?_, fun s' e => ?_⟩
          · simp only [jetsamref15_Right_K2, prevOk, hw]
            by_cases hfo : folB (l[j]'(by omega)) x = true <;> simp [hfo]
          · by_cases hfo : prevOk (some (l[j]'(by omega))) x = true
            · rw [if_pos hfo] at e
              cases e
              exact ⟨by simp only; omega, by simp [hx], fun a e => by cases e; exact hm⟩
            · rw [if_neg hfo] at e; cases e
  · simp only [jetsamref15_Right_L1, List.length_map]
    rw [if_neg (by simp)]
    simp [jetsamref15_Right_K1]
/-- Is it a chain? -/
def rgB (g : chain_Guess) (l : List chain_Cand) : Bool := rsB g none l && decide (0 < l.length)
theorem rgB_iff {g : chain_Guess} {l : List chain_Cand} : rgB g l = true ↔ IsCh g l ∧ ∀ x, x ∈ l → mayB x = true := by
  cases l with
  | nil => simp [rgB, IsCh]
  | cons x r =>
    have := rs_none (g := g) (x :: r) (by simp)
    simp only [rgB, List.length_cons, Bool.and_eq_true, decide_eq_true_eq]
    rw [this]
    simp
def lessB (a b : List chain_Cand) : Bool := if wt a = wt b then lexL a b else decide (wt a > wt b)
theorem lessB_iff {a b : List chain_Cand} : lessB a b = true ↔ bet a b := by
  simp only [lessB, bet]
  by_cases h : wt a = wt b
  · rw [if_pos h]; exact ⟨fun e => .inr ⟨h, e⟩, fun e => by rcases e with e | e; omega; exact e.2⟩
  · rw [if_neg h, decide_eq_true_eq]; exact ⟨fun e => .inl e, fun e => by rcases e with e | e; exact e; exact absurd e.1 h⟩
theorem lessR_eq (a b : List chain_Cand) (ha : ∀ x, x ∈ a → mayB x = true) (hb : ∀ x, x ∈ b → mayB x = true) (hal : a.length ≤ 1000) (hbl : b.length ≤ 1000) : jetsamref15_less (a.map cA) (b.map cA) = some (lessB a b) := by
  unfold jetsamref15_less
  rw [weightR_eq a ha hal, weightR_eq b hb hbl]
  simp only [Option.bind_some, lessB]
  by_cases h : wt a = wt b
  · rw [if_neg (by simp [h]), if_pos h]
    refine iter_eq (fun i => ∃ k : Nat, i = (k : Int) ∧ k ≤ a.length ∧ k ≤ b.length ∧ lexL (a.drop k) (b.drop k) = lexL a b) (fun i => a.length - i.toNat) _ (fun i hi => ?_) (a0 := (0 : Int)) ⟨0, rfl, Nat.zero_le _, Nat.zero_le _, rfl⟩ (lt_ROUNDS (by simp; omega))
    obtain ⟨k, rfl, hka, hkb, hl⟩ := hi
    simp only [jetsamref15_less_L1, List.length_map, two_and]
    by_cases hc : k < a.length ∧ k < b.length
    · have e1 : a[k]? = some (a[k]'hc.1) := List.getElem?_eq_getElem hc.1
      have e2 : b[k]? = some (b[k]'hc.2) := List.getElem?_eq_getElem hc.2
      have hw : W ((k : Int) + 1) = ((k + 1 : Nat) : Int) := by rw [W_id (by omega) (by omega)]; omega
      rw [List.drop_eq_getElem_cons (l := a) (i := k) hc.1, List.drop_eq_getElem_cons (l := b) (i := k) hc.2] at hl
      simp only [lexL] at hl
      rw [if_pos (by simp; omega), idx_ok (getmap e1), Option.bind_some, idx_ok (getmap e2), Option.bind_some, cA_beq]
      by_cases e : a[k]'hc.1 = b[k]'hc.2
      · left
        rw [if_neg (by simp [e]), hw]
        rw [if_pos e] at hl
        exact ⟨_, rfl, ⟨k + 1, rfl, by omega, by omega, hl⟩, by omega⟩
      · right
        rw [if_pos (by simp [e]), Option.bind_some, Option.bind_some, ahead_eq, Option.bind_some]
        rw [if_neg e] at hl
        rw [← hl]; rfl
    · right
      have hcond : (decide ((k : Int) < (a.length : Int)) && decide ((k : Int) < (b.length : Int))) = false := by
        rw [Bool.eq_false_iff]; simp only [ne_eq, Bool.and_eq_true, decide_eq_true_eq]; omega
      rw [hcond, if_neg (by simp)]
      simp only [jetsamref15_less_K1, Option.map_some]
      rw [← hl]
      by_cases h1 : k < a.length
      · have : b.drop k = [] := List.drop_of_length_le (by omega)
        rw [this]; cases a.drop k <;> rfl
      · have : a.drop k = [] := List.drop_of_length_le (by omega)
        rw [this]; rfl
  · rw [if_pos (by simpa using h), if_neg h]
theorem lexL_tot : ∀ (a b : List chain_Cand), (∀ x, x ∈ a → mayB x = true) → (∀ x, x ∈ b → mayB x = true) → wt a = wt b → a = b ∨ lexL a b = true ∨ lexL b a = true
  | [], [], _, _, _ => .inl rfl
  | [], y :: b, _, hb, h => by
    have := wt_nn hb
    simp only [wt, List.length_cons] at h this; omega
  | x :: a, [], ha, _, h => by
    have := wt_nn ha
    simp only [wt, List.length_cons] at h this; omega
  | x :: a, y :: b, ha, hb, h => by
    by_cases e : x = y
    · subst e
      rcases lexL_tot a b (fun z hz => ha z (by simp [hz])) (fun z hz => hb z (by simp [hz])) (by simp only [wt] at h; omega) with q | q | q
      · left; rw [q]
      · right; left; simpa [lexL] using q
      · right; right; simpa [lexL] using q
    · right
      have e' : ¬ y = x := fun q => e q.symm
      simp only [lexL, e, e', if_false]
      cases hc : cless x y with
      | true => exact .inl rfl
      | false => exact .inr (cless_tot y x hc e')
theorem bet_tot {a b : List chain_Cand} (ha : ∀ x, x ∈ a → mayB x = true) (hb : ∀ x, x ∈ b → mayB x = true) (h : ¬ bet a b) : a = b ∨ bet b a := by
  simp only [bet, not_or, Int.not_lt] at h
  by_cases e : wt a = wt b
  · rcases lexL_tot a b ha hb e with q | q | q
    · exact .inl q
    · exact absurd ⟨e, q⟩ h.2
    · exact .inr (.inr ⟨e.symm, q⟩)
  · exact .inr (.inl (by omega))

/-! ### One more in order -/
/-- Where it stands: so many are ahead of it. -/
def posI {α : Type} (lt : α → α → Bool) (x : α) : List α → Nat
  | [] => 0
  | y :: r => if lt y x = true then posI lt x r + 1 else 0
def insP {α : Type} [DecidableEq α] (lt : α → α → Bool) (x : α) (l : List α) : List α := if l[posI lt x l]? = some x then l else l.take (posI lt x l) ++ x :: l.drop (posI lt x l)
theorem posI_le {α : Type} (lt : α → α → Bool) (x : α) (l : List α) : posI lt x l ≤ l.length := by
  induction l with
  | nil => simp [posI]
  | cons y r ih => simp only [posI]; split <;> simp <;> omega
theorem posI_lt {α : Type} (lt : α → α → Bool) (x : α) : ∀ (l : List α) (i : Nat) (y : α), i < posI lt x l → l[i]? = some y → lt y x = true
  | [], _, _, h, _ => by simp [posI] at h
  | z :: r, i, y, h, hy => by
    simp only [posI] at h
    split at h
    · rename_i hz
      cases i with
      | zero => simp at hy; subst hy; exact hz
      | succ i => exact posI_lt lt x r i y (by omega) (by simpa using hy)
    · omega
theorem posI_at {α : Type} (lt : α → α → Bool) (x : α) : ∀ (l : List α) (y : α), l[posI lt x l]? = some y → lt y x = false
  | [], _, h => by simp [posI] at h
  | z :: r, y, h => by
    simp only [posI] at h
    split at h
    · exact posI_at lt x r y (by simpa using h)
    · rename_i hz; simp at h; subst h; simpa using hz
theorem insP_spec {α : Type} [DecidableEq α] (lt : α → α → Bool) (ht : ∀ a b, lt b a = false → a ≠ b → lt a b = true) (htr : ∀ a b c, lt a b = true → lt b c = true → lt a c = true) (x : α) (l : List α) (h : SS lt l) :
    SS lt (insP lt x l) ∧ (∀ y, y ∈ insP lt x l ↔ y ∈ l ∨ y = x) ∧ (insP lt x l).length ≤ l.length + 1 := by
  unfold insP
  by_cases hx : l[posI lt x l]? = some x
  · rw [if_pos hx]
    exact ⟨h, fun y => ⟨.inl, fun h => h.elim id fun e => e ▸ List.mem_of_getElem? hx⟩, by omega⟩
  · rw [if_neg hx]
    have htd := List.take_append_drop (posI lt x l) l
    have hss : SS lt (l.take (posI lt x l) ++ l.drop (posI lt x l)) := by rw [htd]; exact h
    obtain ⟨h1, h2, h3⟩ := List.pairwise_append.1 hss
    have ha : ∀ y, y ∈ l.take (posI lt x l) → lt y x = true := fun y hy => by
      obtain ⟨i, hi⟩ := List.mem_iff_getElem?.1 hy
      rw [List.getElem?_take] at hi
      split at hi
      · rename_i hlt; exact posI_lt lt x l i y hlt hi
      · cases hi
    have hb : ∀ y, y ∈ l.drop (posI lt x l) → lt x y = true := by
      have hp := posI_at lt x l
      generalize posI lt x l = k at hp hx h2
      intro y hy
      cases hd : l.drop k with
      | nil => rw [hd] at hy; simp at hy
      | cons z r =>
        have hz : l[k]? = some z := by
          have : (l.drop k)[0]? = some z := by rw [hd]; rfl
          simpa using this
        have hxz : lt x z = true := ht x z (hp z hz) (fun e => hx (by rw [hz, e]))
        rw [hd] at hy h2
        rcases List.mem_cons.1 hy with rfl | hy
        · exact hxz
        · exact htr _ _ _ hxz ((List.pairwise_cons.1 h2).1 y hy)
    refine ⟨List.pairwise_append.2 ⟨h1, List.pairwise_cons.2 ⟨hb, h2⟩, fun a haa b hbb => ?_⟩, fun y => ?_, ?_⟩
    · rcases List.mem_cons.1 hbb with rfl | hbb
      · exact ha a haa
      · exact h3 a haa b hbb
    · rw [List.mem_append, List.mem_cons]
      have : y ∈ l ↔ y ∈ l.take (posI lt x l) ∨ y ∈ l.drop (posI lt x l) := by rw [← List.mem_append, htd]
      rw [this]
      constructor
      · rintro (q | q | q)
        · exact .inl (.inl q)
        · exact .inr q
        · exact .inl (.inr q)
      · rintro ((q | q) | q)
        · exact .inl q
        · exact .inr (.inr q)
        · exact .inr (.inl q)
    · have := congrArg List.length htd
      simp only [List.length_append, List.length_cons] at this ⊢
      omega
/-- A place is looked for. -/
theorem find_loop {A : Type} {step : Int → Option (Int ⊕ A)} (p : Nat → Prop) (n k0 : Nat) (hk : k0 ≤ n) (hn : n ≤ 100000) (r : A) (h : ∀ k, k < k0 → step (k : Int) = some (.inl ((k + 1 : Nat) : Int))) (he : step (k0 : Int) = some (.inr r)) : iter step 0 = some r := by
  refine iter_eq (fun i => ∃ k : Nat, i = (k : Int) ∧ k ≤ k0) (fun i => k0 - i.toNat) _ (fun i hi => ?_) (a0 := (0 : Int)) ⟨0, rfl, Nat.zero_le _⟩ (lt_ROUNDS (by simp; omega))
  obtain ⟨k, rfl, hkk⟩ := hi
  by_cases e : k = k0
  · subst e; exact .inr he
  · left
    exact ⟨_, h k (by omega), ⟨k + 1, rfl, by omega⟩, by omega⟩
end Go.Vg
