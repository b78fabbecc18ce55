/- No chain is heavier than the best one. -/
import Derived.Test.YthnbhhifehkggaaPf
set_option maxRecDepth 4000
set_option linter.all false
set_option linter.unusedVariables false
set_option linter.unusedSimpArgs false
namespace Go.Vg
open Go
def prevOk : Option chain_Cand → chain_Cand → Bool
  | none, _ => true
  | some a, x => folB a x
def rsB (g : chain_Guess) (p : Option chain_Cand) : List chain_Cand → Bool
  | [] => true
  | x :: r => mayB x && fitB g x r.isEmpty && prevOk p x && rsB g (some x) r
theorem rs_some {g : chain_Guess} : ∀ (l : List chain_Cand) (a : chain_Cand), l ≠ [] → (rsB g (some a) l = true ↔ (∃ x r, l = x :: r ∧ folB a x = true) ∧ IsCh g l ∧ ∀ x, x ∈ l → mayB x = true)
  | [], _, h => absurd rfl h
  | [x], a, _ => by
    simp only [rsB, prevOk, List.isEmpty_nil, Bool.and_true, Bool.and_eq_true, IsCh, List.mem_singleton, forall_eq, List.cons.injEq]
    constructor
    · rintro ⟨⟨h1, h2⟩, h3⟩; exact ⟨⟨x, [], ⟨rfl, rfl⟩, h3⟩, h2, h1⟩
    · rintro ⟨⟨x', r, ⟨rfl, rfl⟩, h3⟩, h2, h1⟩; exact ⟨⟨h1, h2⟩, h3⟩
  | x :: y :: r, a, _ => by
    have ih := rs_some (g := g) (y :: r) x (by simp)
    rw [rsB, Bool.and_eq_true, ih]
    simp only [prevOk, List.isEmpty_cons, Bool.and_eq_true, IsCh]
    constructor
    · rintro ⟨⟨⟨h1, h2⟩, h3⟩, ⟨y', r', e, h4⟩, h5, h6⟩
      cases e
      exact ⟨⟨x, _, rfl, h3⟩, ⟨h2, h4, h5⟩, fun z hz => (List.mem_cons.1 hz).elim (fun e => e ▸ h1) (h6 z)⟩
    · rintro ⟨⟨x', r', e, h3⟩, ⟨h2, h4, h5⟩, h6⟩
      cases e
      exact ⟨⟨⟨h6 x (by simp), h2⟩, h3⟩, ⟨y, r, rfl, h4⟩, h5, fun z hz => h6 z (List.mem_cons_of_mem _ hz)⟩
theorem rs_none {g : chain_Guess} (l : List chain_Cand) (hl : l ≠ []) : rsB g none l = true ↔ IsCh g l ∧ ∀ x, x ∈ l → mayB x = true := by
  match l, hl with
  | [x], _ =>
    simp only [rsB, prevOk, List.isEmpty_nil, Bool.and_true, Bool.and_eq_true, IsCh, List.mem_singleton, forall_eq]
    exact ⟨fun h => ⟨h.2, h.1⟩, fun h => ⟨h.2, h.1⟩⟩
  | x :: y :: r, _ =>
    have ih := rs_some (g := g) (y :: r) x (by simp)
    rw [rsB, Bool.and_eq_true, ih]
    simp only [prevOk, List.isEmpty_cons, Bool.and_true, Bool.and_eq_true, IsCh]
    constructor
    · rintro ⟨⟨h1, h2⟩, ⟨y', r', e, h4⟩, h5, h6⟩
      cases e
      exact ⟨⟨h2, h4, h5⟩, fun z hz => (List.mem_cons.1 hz).elim (fun e => e ▸ h1) (h6 z)⟩
    · rintro ⟨⟨h2, h4, h5⟩, h6⟩
      exact ⟨⟨h6 x (by simp), h2⟩, ⟨y, r, rfl, h4⟩, h5, fun z hz => h6 z (List.mem_cons_of_mem _ hz)⟩
def rsF (g : chain_Guess) (s : Option chain_Cand × Nat) (x : chain_Cand) : (Option chain_Cand × Nat) ⊕ Bool :=
  if (mayB x && fitB g x (decide (s.2 = 1)) && prevOk s.1 x) = true then .inl (some x, s.2 - 1) else .inr false
theorem rsF_fold (g : chain_Guess) (b : Bool) : ∀ (r : List chain_Cand) (p : Option chain_Cand), outE (fun _ => b) (foldE (rsF g) r (p, r.length)) = (rsB g p r && b)
  | [], p => by simp [foldE, outE, rsB]
  | x :: r, p => by
    have hd : decide ((x :: r).length = 1) = r.isEmpty := by cases r <;> simp
    simp only [foldE, rsB, rsF, hd]
    cases hc : (mayB x && fitB g x r.isEmpty && prevOk p x) with
    | true => simp only [if_true, Bool.true_and]; exact rsF_fold g b r (some x)
    | false => simp [outE]
theorem right_eq (g : chain_Guess) (l : List chain_Cand) (hl : l.length ≤ 1000) : chain_Right g l = some (rsB g none l && decide (0 < l.length)) := by
  unfold chain_Right
  have := iter_list (step := chain_Right_L1 g l) (A := Bool) (fun k _ => (k : Int)) (rsF g) (fun _ => decide (0 < l.length)) (fun k s => s.2 = l.length - k ∧ s.1 = (if k = 0 then none else l[k - 1]?) ∧ ∀ a, s.1 = some a → mayB a = true) l (by omega) (fun k s x hx hi => ?_) (fun s _ => ?_) (s0 := (none, l.length)) ⟨rfl, rfl, by simp⟩
  · rw [show (0 : Int) = ((0 : Nat) : Int) from rfl, this, rsF_fold]
  · have hk := (List.getElem?_eq_some_iff.1 hx).1
    have hw : W ((k : Int) + 1) = ((k + 1 : Nat) : Int) := by rw [W_id (by omega) (by omega)]; omega
    have hw2 : W ((l.length : Int) - 1) = (l.length : Int) - 1 := W_id (by omega) (by omega)
    have hw3 : W ((k : Int) - 1) = (k : Int) - 1 := W_id (by omega) (by omega)
    obtain ⟨p, m⟩ := s
    obtain ⟨i1, i2, i3⟩ := hi
    simp only at i1 i2 i3
    subst i1
    have hlast : ((k : Int) == (l.length : Int) - 1) = decide (l.length - k = 1) := by
      rw [Bool.eq_iff_iff]; simp only [beq_iff_eq, decide_eq_true_eq]; omega
    simp only [chain_Right_L1, rsF, hw2, hlast]
    rw [if_pos (by simpa using (show (k : Int) < l.length by omega)), idx_ok hx, Option.bind_some, may_eq, Option.bind_some, fits_eq]
    cases hm : mayB x with
    | false => simp [chain_Right_K2]
    | true =>
      simp only [Bool.not_true, Bool.false_eq_true, if_false, Option.bind_some, Bool.true_and]
      cases hf : fitB g x (decide (l.length - k = 1)) with
      | false => simp [chain_Right_K2]
      | true =>
        simp only [Bool.not_true, Bool.false_eq_true, if_false, Bool.true_and]
        cases k with
        | zero =>
          simp only [if_true] at i2
          subst i2
          have hw' : W (((0 : Nat) : Int) + 1) = ((0 + 1 : Nat) : Int) := hw
          refine ⟨?_, fun s' e => ?_⟩
          · rw [if_neg (by simp)]
            simp only [chain_Right_K2, prevOk, Bool.false_eq_true, if_false, if_true, hw']
          · simp only [prevOk, if_true] at e
            cases e
            exact ⟨rfl, by simp [hx], fun a e => by cases e; exact hm⟩
        | succ j =>
          simp only [Nat.add_one_ne_zero, if_false, Nat.add_sub_cancel] at i2
          have hj : l[j]? = some (l[j]'(by omega)) := List.getElem?_eq_getElem (by omega)
          rw [hj] at i2
          subst i2
          have e1 : ((j + 1 : Nat) : Int) - 1 = (j : Int) := by omega
          rw [if_pos (by simp), hw3, e1, idx_ok hj, Option.bind_some, follows_eq _ _ (i3 _ rfl), Option.bind_some]
          refine ⟨?_, fun s' e => ?_⟩
          · simp only [chain_Right_K2, prevOk, hw]
            by_cases hfo : folB (l[j]'(by omega)) x = true <;> simp [hfo]
          · by_cases hfo : prevOk (some (l[j]'(by omega))) x = true
            · rw [if_pos hfo] at e
              cases e
              exact ⟨by simp only; omega, by simp [hx], fun a e => by cases e; exact hm⟩
            · rw [if_neg hfo] at e; cases e
  · simp only [chain_Right_L1]
    rw [if_neg (by simp)]
    simp [chain_Right_K1]
def toldB (g : chain_Guess) (x : chain_Cand) : Bool := decide (x.Params.Rate = g.Params.Rate ∧ x.Params.Channels = g.Params.Channels ∧ x.Params.Depth = g.Params.Depth) && (x.Variable == g.Variable) && ((g.Variable && decide (g.Block = 0)) || (!g.Variable && decide (x.Block = g.Block)))
theorem told_eq (g : chain_Guess) (l : List chain_Cand) (hl : l.length ≤ 1000) : jetsamlaw15_told g l = some (l.any (toldB g)) := by
  unfold jetsamlaw15_told
  have := iter_list (step := jetsamlaw15_told_L1 g l) (A := Bool) (σ := Unit) (fun k _ => (k : Int)) (fun _ x => if toldB g x = true then .inr true else .inl ()) (fun _ => false) (fun _ _ => True) l (by omega) (fun k s x hx hi => ?_) (fun s _ => ?_) (s0 := ()) trivial
  · rw [show (0 : Int) = ((0 : Nat) : Int) from rfl, this]
    congr 1
    have key : ∀ r : List chain_Cand, outE (fun _ => false) (foldE (fun _ x => if toldB g x = true then Sum.inr true else Sum.inl ()) r ()) = r.any (toldB g) := by
      intro r
      induction r with
      | nil => rfl
      | cons x r ih =>
        simp only [foldE, List.any_cons]
        cases h : toldB g x with
        | true => simp [outE]
        | false => simpa using ih
    exact key l
  · have hk := (List.getElem?_eq_some_iff.1 hx).1
    have hw : W ((k : Int) + 1) = ((k + 1 : Nat) : Int) := by rw [W_id (by omega) (by omega)]; omega
    refine ⟨?_, fun _ _ => trivial⟩
    simp only [jetsamlaw15_told_L1, jetsamlaw15_told_K2, two_and]
    rw [if_pos (by simpa using (show (k : Int) < l.length by omega)), idx_ok hx]
    simp only [Option.bind_some, toldB, hw]
    by_cases h1 : x.Params.Rate = g.Params.Rate ∧ x.Params.Channels = g.Params.Channels ∧ x.Params.Depth = g.Params.Depth
    · obtain ⟨q1, q2, q3⟩ := h1
      by_cases h4 : x.Variable = g.Variable
      · by_cases h5 : g.Variable = true
        · by_cases h6 : g.Block = 0 <;> simp [q1, q2, q3, h4, h5, h6, idx_ok hx]
        · by_cases h7 : x.Block = g.Block <;> simp [q1, q2, q3, h4, h5, h7, idx_ok hx]
      · simp [q1, q2, q3, h4, idx_ok hx]
    · have hq : ((x.Params.Rate == g.Params.Rate) && ((x.Params.Channels == g.Params.Channels) && (x.Params.Depth == g.Params.Depth))) = false := by
        rw [Bool.eq_false_iff]
        simp only [ne_eq, Bool.and_eq_true, beq_iff_eq]; exact h1
      simp [hq, h1]
  · simp only [jetsamlaw15_told_L1]
    rw [if_neg (by simp)]; rfl
theorem wt_take {c : List chain_Cand} {k : Nat} {x : chain_Cand} (hx : c[k]? = some x) : wt (c.take (k + 1)) = wt (c.take k) + x.Size := by
  have app : ∀ (a : List chain_Cand), wt (a ++ [x]) = wt a + x.Size := by
    intro a
    induction a with
    | nil => simp [wt]
    | cons y a ih => simp only [List.cons_append, wt, ih]; omega
  rw [List.take_add_one, hx]
  exact app _
theorem wt_hi {c : List chain_Cand} (h : ∀ x, x ∈ c → mayB x = true) : wt c ≤ (c.length : Int) * M40 := by
  induction c with
  | nil => simp [wt]
  | cons x r ih =>
    have := ih fun y hy => h y (by simp [hy])
    have hx := mayB_iff.1 (h x (by simp))
    simp only [wt, List.length_cons]
    have : ((r.length + 1 : Nat) : Int) = (r.length : Int) + 1 := by omega
    rw [this, Int.add_mul, Int.one_mul]; omega
theorem wt_take_le {c : List chain_Cand} (h : ∀ x, x ∈ c → mayB x = true) (hl : c.length ≤ 1000) (k : Nat) : 0 ≤ wt (c.take k) ∧ wt (c.take k) ≤ 1000 * M40 := by
  have hm : ∀ x, x ∈ c.take k → mayB x = true := fun x hx => h x (List.mem_of_mem_take hx)
  have h1 := wt_nn hm
  have h2 := wt_hi hm
  have h3 : (c.take k).length ≤ 1000 := by rw [List.length_take]; omega
  have h4 := mul_mono h3
  have h5 : ((1000 : Nat) : Int) * M40 = 1000 * M40 := rfl
  omega
theorem sumW {c : List chain_Cand} (h : ∀ x, x ∈ c → mayB x = true) (hl : c.length ≤ 1000) {k : Nat} {x : chain_Cand} (hx : c[k]? = some x) : W (wt (c.take k) + x.Size) = wt (c.take (k + 1)) := by
  have h1 := wt_take_le h hl k
  have h2 := mayB_iff.1 (h x (List.mem_of_getElem? hx))
  rw [wt_take hx]
  unfold M40 at h1 h2
  exact W_id (by omega) (by omega)
/-- **No chain is heavier than the best one.** -/
theorem bound (l : List chain_Cand) (g : chain_Guess) (m : List chain_Cand) : jetsamlaw15_ChainBound l g m = some true := by
  unfold jetsamlaw15_ChainBound
  rw [two_guard]
  cases hg : (decide ((l.length : Int) > 100) || decide ((m.length : Int) > 100)) with
  | true => rw [if_pos rfl, awake15]; rfl
  | false =>
  rw [if_neg (by simp)]
  simp only [Bool.or_eq_false_iff, decide_eq_false_iff_not] at hg
  have hl : l.length ≤ 100 := by omega
  have hm : m.length ≤ 100 := by omega
  rw [app_ok (by simp; omega), Option.bind_some, app_ok (by simp; omega), Option.bind_some, best_eq _ (by simp; omega), Option.bind_some]
  generalize hall : ([] ++ l ++ m : List chain_Cand) = all
  have hal : all.length ≤ 200 := by rw [← hall]; simp; omega
  have hma : ∀ x, x ∈ m → x ∈ all := fun x hx => by rw [← hall]; simp [hx]
  have hbl := bst_len all (by omega)
  have hcm : ∀ x, x ∈ (bst all).2 → x ∈ all ∧ mayB x = true := by
    rcases bst_spec all (by omega) with ⟨h, _⟩ | ⟨_, _, h, _⟩
    · rw [h]; simp
    · exact h.2
  refine iter_eq (fun a => ∃ k : Nat, a = (wt ((bst all).2.take k), (k : Int)) ∧ k ≤ (bst all).2.length) (fun a => (bst all).2.length - a.2.toNat) true (fun a ha => ?_) (a0 := ((0 : Int), (0 : Int))) ⟨0, rfl, Nat.zero_le _⟩ (lt_ROUNDS (by simp only; omega))
  obtain ⟨k, rfl, hk⟩ := ha
  simp only [jetsamlaw15_ChainBound_L2]
  by_cases hlt : k < (bst all).2.length
  · left
    have hx : (bst all).2[k]? = some (bst all).2[k] := List.getElem?_eq_getElem hlt
    have hxm := hcm _ (List.getElem_mem hlt)
    have hw : W ((k : Int) + 1) = ((k + 1 : Nat) : Int) := by rw [W_id (by omega) (by omega)]; omega
    rw [if_pos (by simpa using (show (k : Int) < (bst all).2.length by omega)), idx_ok hx, Option.bind_some]
    refine ⟨(wt ((bst all).2.take (k + 1)), ((k + 1 : Nat) : Int)), ?_, ⟨k + 1, rfl, by omega⟩, by simp only; omega⟩
    refine iter_eq (fun a => ∃ j : Nat, a.2 = (j : Int) ∧ j ≤ all.length ∧ (a.1 = true ∨ ∀ i, i < j → all[i]? ≠ some (bst all).2[k])) (fun a => all.length - a.2.toNat) _ (fun a ha => ?_) (a0 := (false, (0 : Int))) ⟨0, rfl, Nat.zero_le _, .inr fun i hi => by omega⟩ (lt_ROUNDS (by simp only; omega))
    obtain ⟨b, j'⟩ := a
    obtain ⟨j, rfl, hj, hb⟩ := ha
    simp only at hb
    simp only [jetsamlaw15_ChainBound_L3]
    by_cases hjl : j < all.length
    · left
      have hy : all[j]? = some all[j] := List.getElem?_eq_getElem hjl
      have hwj : W ((j : Int) + 1) = ((j + 1 : Nat) : Int) := by rw [W_id (by omega) (by omega)]; omega
      rw [if_pos (by simpa using (show (j : Int) < all.length by omega))]
      by_cases hbt : b = true
      · rw [if_pos hbt, hwj]
        exact ⟨_, rfl, ⟨j + 1, rfl, by omega, .inl rfl⟩, by simp only; omega⟩
      · rw [if_neg hbt, idx_ok hy, Option.bind_some, idx_ok hx, Option.bind_some, candEq, hwj]
        refine ⟨_, rfl, ⟨j + 1, rfl, by omega, ?_⟩, by simp only; omega⟩
        by_cases he : all[j] = (bst all).2[k]
        · left; simpa using he
        · right
          intro i hi
          by_cases e : i = j
          · subst e; rw [hy]; simpa using he
          · exact hb.resolve_left hbt i (by omega)
    · right
      rw [if_neg (by simpa using (show ¬ (j : Int) < all.length by omega))]
      have hbt : b = true := by
        rcases hb with h | h
        · exact h
        · obtain ⟨i, hi⟩ := List.mem_iff_getElem?.1 hxm.1
          exact absurd hi (h i (by have := (List.getElem?_eq_some_iff.1 hi).1; omega))
      subst hbt
      simp only [jetsamlaw15_ChainBound_K4, jetsamlaw15_ChainBound_K3, Bool.not_true, Bool.false_eq_true, if_false, hw, sumW (fun x hx => (hcm x hx).2) (by omega) hx, Option.map_some]
  · right
    have hk' : k = (bst all).2.length := by omega
    subst hk'
    rw [if_neg (by simp)]
    simp only [jetsamlaw15_ChainBound_K1, List.take_length]
    rw [if_neg (by simp), right_eq _ _ (by omega), Option.bind_some]
    have hR : rsB (bst all).1 none (bst all).2 = true := by
      rcases bst_spec all (by omega) with ⟨h, _⟩ | ⟨_, _, h, _⟩
      · rw [h]; rfl
      · exact (rs_none _ (isCh_ne h.1)).2 ⟨h.1, fun x hx => (h.2 x hx).2⟩
    rw [hR, if_neg (by simp), right_eq g m (by omega), Option.bind_some]
    by_cases hrt : (rsB g none m && decide (0 < m.length)) = true
    · rw [hrt, if_neg (by simp), told_eq g m (by omega), Option.bind_some]
      by_cases htd : m.any (toldB g) = true
      · rw [htd, if_neg (by simp), (hv_spec g all (by omega)).1, Option.bind_some]
        have hmn : m ≠ [] := by
          intro e; subst e; simp at hrt
        simp only [Bool.and_eq_true] at hrt
        obtain ⟨hc1, hc2⟩ := (rs_none m hmn).1 hrt.1
        have hch : Chn g all m := ⟨hc1, fun x hx => ⟨hma x hx, hc2 x hx⟩⟩
        have h1 := hv_max (l := all) (by omega) hch
        have hgm : g ∈ gss all := by
          obtain ⟨x, hx, hxt⟩ := List.any_eq_true.1 htd
          refine (gss_mem _ _).2 ⟨x, hma x hx, hc2 x hx, ?_⟩
          simp only [toldB, Bool.and_eq_true, Bool.or_eq_true, decide_eq_true_eq, beq_iff_eq, Bool.not_eq_true'] at hxt
          obtain ⟨⟨⟨q1, q2, q3⟩, q4⟩, q5⟩ := hxt
          obtain ⟨⟨a, b, c⟩, d, e⟩ := g
          obtain ⟨⟨a', b', c'⟩, d', e', f', i', j'⟩ := x
          simp only at q1 q2 q3 q4 q5
          subst q1; subst q2; subst q3; subst q4
          simp only [gof, chain_Guess.mk.injEq, true_and]
          rcases q5 with ⟨q5, q6⟩ | ⟨q5, q6⟩
          · rw [if_pos q5, q6]
          · rw [if_neg (by simp [q5]), q6]
        have h2 := bst_max (l := all) (by omega) hgm h1.1
        refine (congrArg (Option.map Sum.inr) (iter_eq (r := true) (fun a => ∃ k : Nat, a = (wt (m.take k), (k : Int)) ∧ k ≤ m.length) (fun a => m.length - a.2.toNat) (fun a ha => ?_) (a0 := ((0 : Int), (0 : Int))) ⟨0, rfl, Nat.zero_le _⟩ (lt_ROUNDS (by simp only; omega)))).trans rfl
        obtain ⟨k, rfl, hk⟩ := ha
        simp only [jetsamlaw15_ChainBound_L1]
        by_cases hkm : k < m.length
        · left
          have hx : m[k]? = some m[k] := List.getElem?_eq_getElem hkm
          have hw : W ((k : Int) + 1) = ((k + 1 : Nat) : Int) := by rw [W_id (by omega) (by omega)]; omega
          rw [if_pos (by simpa using (show (k : Int) < m.length by omega)), idx_ok hx, Option.bind_some, sumW hc2 (by omega) hx, hw]
          exact ⟨_, rfl, ⟨k + 1, rfl, by omega⟩, by simp only; omega⟩
        · right
          have : k = m.length := by omega
          subst this
          rw [if_neg (by simp)]
          simp only [jetsamlaw15_ChainBound_K2, List.take_length, two_and]
          rw [if_pos (by simp only [Bool.and_eq_true, decide_eq_true_eq]; exact ⟨h1.2.1, h2⟩), awake15]
          rfl
      · rw [if_pos (by simpa using htd), awake15]; rfl
    · have hrf : (rsB g none m && decide (0 < m.length)) = false := by simpa only [Bool.not_eq_true] using hrt
      rw [hrf, if_pos (show (!false) = true from rfl), awake15]; rfl
end Go.Vg
