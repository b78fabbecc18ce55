/- The reference: all chains, one by one. -/
import Derived.Test.YthnbhhifehkggaaPg
set_option maxRecDepth 4000
set_option linter.all false
set_option linter.unusedVariables false
set_option linter.unusedSimpArgs false
namespace Go.Vg
open Go
theorem fl_one (b : Bool) : jetsamlaw15_one b = some (fl b) := by cases b <;> rfl
/-- A candidate, and a guess, as the reference has them. -/
def cA (c : chain_Cand) : Nat → Int := arrn [c.Offset, c.Size, c.Number, c.Block, fl c.Variable, c.Params.Rate, c.Params.Channels, c.Params.Depth]
def gA (g : chain_Guess) : Nat → Int := arrn [fl g.Variable, g.Params.Rate, g.Params.Channels, g.Params.Depth, g.Block]
theorem cand_eq (c : chain_Cand) : jetsamlaw15_cand c = some (cA c) := by simp only [jetsamlaw15_cand, fl_one, Option.bind_some, cA]
theorem guessA_eq (g : chain_Guess) : jetsamlaw15_guess g = some (gA g) := by simp only [jetsamlaw15_guess, fl_one, Option.bind_some, gA]
theorem cA_get (c : chain_Cand) : cA c 0 = c.Offset ∧ cA c 1 = c.Size ∧ cA c 2 = c.Number ∧ cA c 3 = c.Block ∧ cA c 4 = fl c.Variable ∧ cA c 5 = c.Params.Rate ∧ cA c 6 = c.Params.Channels ∧ cA c 7 = c.Params.Depth := ⟨rfl, rfl, rfl, rfl, rfl, rfl, rfl, rfl⟩
theorem gA_get (g : chain_Guess) : gA g 0 = fl g.Variable ∧ gA g 1 = g.Params.Rate ∧ gA g 2 = g.Params.Channels ∧ gA g 3 = g.Params.Depth ∧ gA g 4 = g.Block := ⟨rfl, rfl, rfl, rfl, rfl⟩
theorem cA_list (c : chain_Cand) : [cA c 0, cA c 1, cA c 2, cA c 3, cA c 4, cA c 5, cA c 6, cA c 7] = ckey c := rfl
theorem gA_list (g : chain_Guess) : [gA g 0, gA g 1, gA g 2, gA g 3, gA g 4] = gkey g := rfl
theorem fl_beq (a b : Bool) : (fl a == fl b) = (a == b) := by cases a <;> cases b <;> rfl
theorem cA_beq (c d : chain_Cand) : ((cA c 0 == cA d 0) && ((cA c 1 == cA d 1) && ((cA c 2 == cA d 2) && ((cA c 3 == cA d 3) && ((cA c 4 == cA d 4) && ((cA c 5 == cA d 5) && ((cA c 6 == cA d 6) && (cA c 7 == cA d 7)))))))) = decide (c = d) := by
  rw [← candEq]
  simp only [cA_get, fl_beq]
  cases c.Offset == d.Offset <;> cases c.Size == d.Size <;> cases c.Number == d.Number <;> cases c.Block == d.Block <;> cases c.Variable == d.Variable <;> cases c.Params.Rate == d.Params.Rate <;> cases c.Params.Channels == d.Params.Channels <;> cases c.Params.Depth == d.Params.Depth <;> rfl
theorem gA_beq (c d : chain_Guess) : ((gA c 0 == gA d 0) && ((gA c 1 == gA d 1) && ((gA c 2 == gA d 2) && ((gA c 3 == gA d 3) && (gA c 4 == gA d 4))))) = decide (c = d) := by
  rw [← guessEq]
  simp only [gA_get, fl_beq]
  cases c.Variable == d.Variable <;> cases c.Params.Rate == d.Params.Rate <;> cases c.Params.Channels == d.Params.Channels <;> cases c.Params.Depth == d.Params.Depth <;> cases c.Block == d.Block <;> rfl
theorem cands_eq (l : List chain_Cand) (hl : l.length ≤ 1000) : jetsamlaw15_cands l = some (l.map cA) := by
  unfold jetsamlaw15_cands
  have := iter_list (step := jetsamlaw15_cands_L1 l) (A := List (Nat → Int)) (fun k s => ((k : Int), s)) (fun s x => .inl (s ++ [cA x])) (fun s => s) (fun k s => s = (l.take k).map cA) l (by omega) (fun k s x hx hs' => ?_) (fun s hs' => ?_) (s0 := ([] : List (Nat → Int))) (by simp)
  · rw [show ((0 : Int), ([] : List (Nat → Int))) = (((0 : Nat) : Int), []) from rfl, this, foldE_inl (g := fun s x => s ++ [cA x]) (fun _ _ => rfl)]
    have : ∀ (r : List chain_Cand) (s : List (Nat → Int)), r.foldl (fun s x => s ++ [cA x]) s = s ++ r.map cA := by
      intro r
      induction r with
      | nil => simp
      | cons x r ih => intro s; simp [ih]
    simp only [outE, this, List.nil_append]
  · have hk := (List.getElem?_eq_some_iff.1 hx).1
    have hw : W ((k : Int) + 1) = ((k + 1 : Nat) : Int) := by rw [W_id (by omega) (by omega)]; omega
    refine ⟨?_, fun s' e => ?_⟩
    · simp only [jetsamlaw15_cands_L1]
      have hn : (s.length + 1) * 64 ≤ 140737488355328 := by rw [hs']; simp; omega
      rw [if_pos (by simpa using (show (k : Int) < l.length by omega)), idx_ok hx, Option.bind_some, cand_eq, Option.bind_some, app_ok (by simpa using hn), Option.bind_some, hw]
    · cases e
      rw [hs', List.take_add_one, hx]; simp
  · simp only [jetsamlaw15_cands_L1]
    rw [if_neg (by simp)]; rfl
/-- Two lists of numbers, held against one another. -/
theorem ahead_list (step : Int → Option (Int ⊕ Bool)) (a b : List Int) (n : Nat) (ha : a.length = n) (hb : b.length = n) (hn : n ≤ 1000)
    (h : ∀ (k : Nat) (x y : Int), a[k]? = some x → b[k]? = some y → step k = some (if x = y then .inl ((k + 1 : Nat) : Int) else .inr (decide (x < y)))) (he : step (n : Int) = some (.inr false)) : iter step 0 = some (lexLt a b) := by
  refine iter_eq (fun i => ∃ k : Nat, i = (k : Int) ∧ k ≤ n ∧ lexLt (a.drop k) (b.drop k) = lexLt a b) (fun i => n - i.toNat) _ (fun i hi => ?_) (a0 := (0 : Int)) ⟨0, rfl, Nat.zero_le _, rfl⟩ (lt_ROUNDS (by simp; omega))
  obtain ⟨k, rfl, hk, hl⟩ := hi
  by_cases hkn : k < n
  · have e1 : a[k]? = some (a[k]'(by omega)) := List.getElem?_eq_getElem (by omega)
    have e2 : b[k]? = some (b[k]'(by omega)) := List.getElem?_eq_getElem (by omega)
    rw [List.drop_eq_getElem_cons (l := a) (i := k) (by omega), List.drop_eq_getElem_cons (l := b) (i := k) (by omega)] at hl
    simp only [lexLt] at hl
    rw [h k _ _ e1 e2]
    by_cases e : a[k]'(by omega) = b[k]'(by omega)
    · left
      rw [if_pos e]
      refine ⟨_, rfl, ⟨k + 1, rfl, by omega, ?_⟩, by omega⟩
      rw [← hl, e]; simp
    · right
      rw [if_neg e, ← hl]
      simp [e]
  · right
    have : k = n := by omega
    subst this
    rw [he, ← hl, List.drop_of_length_le (by omega)]
    rfl
theorem ahead_eq (c d : chain_Cand) : jetsamref15_Ahead (cA c) (cA d) = some (cless c d) := by
  unfold jetsamref15_Ahead
  refine ahead_list _ (ckey c) (ckey d) 8 rfl rfl (by omega) (fun k x y hx hy => ?_) ?_
  · have hk : k < 8 := (List.getElem?_eq_some_iff.1 hx).1
    have hw : W ((k : Int) + 1) = ((k + 1 : Nat) : Int) := by rw [W_id (by omega) (by omega)]; omega
    simp only [jetsamref15_Ahead_L1, cA_list]
    rw [if_pos (by simp; omega), idx_ok hx, Option.bind_some, idx_ok hy, Option.bind_some]
    by_cases e : x = y
    · rw [if_neg (by simp [e]), if_pos e, hw]
    · rw [if_pos (by simp [e]), if_neg e]
      simp only [Option.bind_some, Option.map_some]
  · simp only [jetsamref15_Ahead_L1]
    rw [if_neg (by simp)]; rfl
theorem before_eq (c d : chain_Guess) : jetsamref15_before (gA c) (gA d) = some (gless c d) := by
  unfold jetsamref15_before
  refine ahead_list _ (gkey c) (gkey d) 5 rfl rfl (by omega) (fun k x y hx hy => ?_) ?_
  · have hk : k < 5 := (List.getElem?_eq_some_iff.1 hx).1
    have hw : W ((k : Int) + 1) = ((k + 1 : Nat) : Int) := by rw [W_id (by omega) (by omega)]; omega
    simp only [jetsamref15_before_L1, gA_list]
    rw [if_pos (by simp; omega), idx_ok hx, Option.bind_some, idx_ok hy, Option.bind_some]
    by_cases e : x = y
    · rw [if_neg (by simp [e]), if_pos e, hw]
    · rw [if_pos (by simp [e]), if_neg e]
      simp only [Option.bind_some, Option.map_some]
  · simp only [jetsamref15_before_L1]
    rw [if_neg (by simp)]; rfl
theorem mayR_eq (c : chain_Cand) : jetsamref15_May (cA c) = some (mayB c) := by
  have w1 : W 1 = 1 := by decide
  have w2 : W 2 = 2 := by decide
  have w3 : W 3 = 3 := by decide
  have w4 : W 4 = 4 := by decide
  unfold jetsamref15_May iter
  refine iterN_mono (n := 5) (by unfold ROUNDS; omega) ?_
  have i0 : idx (ckey c) 0 = some c.Offset := rfl
  have i1 : idx (ckey c) 1 = some c.Size := rfl
  have i2 : idx (ckey c) 2 = some c.Number := rfl
  have i3 : idx (ckey c) 3 = some c.Block := rfl
  have no : (¬ ((0 ≤ c.Offset ∧ c.Offset ≤ 1099511627776) ∧ (1 ≤ c.Size ∧ c.Size ≤ 1099511627776) ∧ (0 ≤ c.Number ∧ c.Number ≤ 1099511627776) ∧ (0 ≤ c.Block ∧ c.Block ≤ 1099511627776))) → mayB c = false := fun h => by
    rw [Bool.eq_false_iff]; intro h2; exact h (mayB_iff.1 h2)
  by_cases a1 : c.Offset < 0
  · rw [no (by omega)]; simp [iterN_succ, jetsamref15_May_L1, cA_list, i0, a1]
  by_cases a2 : 1099511627776 < c.Offset
  · rw [no (by omega)]; simp [iterN_succ, jetsamref15_May_L1, cA_list, i0, a1, a2]
  have b1 : 0 ≤ c.Offset := by omega
  have b2 : c.Offset ≤ 1099511627776 := by omega
  by_cases a3 : c.Size < 0
  · rw [no (by omega)]; simp [iterN_succ, jetsamref15_May_L1, cA_list, i0, i1, a1, a2, a3, w1]
  by_cases a4 : 1099511627776 < c.Size
  · rw [no (by omega)]; simp [iterN_succ, jetsamref15_May_L1, cA_list, i0, i1, a1, a2, a3, a4, w1]
  by_cases a5 : c.Size < 1
  · rw [no (by omega)]; simp [iterN_succ, jetsamref15_May_L1, cA_list, i0, i1, a1, a2, a3, a4, a5, w1]
  have b3 : 1 ≤ c.Size := by omega
  have b4 : c.Size ≤ 1099511627776 := by omega
  by_cases a6 : c.Number < 0
  · rw [no (by omega)]; simp [iterN_succ, jetsamref15_May_L1, cA_list, i0, i1, i2, a1, a2, a3, a4, a5, a6, w1, w2]
  by_cases a7 : 1099511627776 < c.Number
  · rw [no (by omega)]; simp [iterN_succ, jetsamref15_May_L1, cA_list, i0, i1, i2, a1, a2, a3, a4, a5, a6, a7, w1, w2]
  have b5 : 0 ≤ c.Number := by omega
  have b6 : c.Number ≤ 1099511627776 := by omega
  by_cases a8 : c.Block < 0
  · rw [no (by omega)]; simp [iterN_succ, jetsamref15_May_L1, cA_list, i0, i1, i2, i3, a1, a2, a3, a4, a5, a6, a7, a8, w1, w2, w3]
  by_cases a9 : 1099511627776 < c.Block
  · rw [no (by omega)]; simp [iterN_succ, jetsamref15_May_L1, cA_list, i0, i1, i2, i3, a1, a2, a3, a4, a5, a6, a7, a8, a9, w1, w2, w3]
  have b7 : 0 ≤ c.Block := by omega
  have b8 : c.Block ≤ 1099511627776 := by omega
  rw [mayB_iff.2 ⟨⟨b1, b2⟩, ⟨b3, b4⟩, ⟨b5, b6⟩, ⟨b7, b8⟩⟩]
  simp [iterN_succ, jetsamref15_May_L1, cA_list, i0, i1, i2, i3, a1, a2, a3, a4, a5, a6, a7, a8, a9, w1, w2, w3, w4, jetsamref15_May_K1]
theorem fl_one_iff (b : Bool) : (fl b == 1) = b := by cases b <;> rfl
theorem fitsR_eq (g : chain_Guess) (c : chain_Cand) (last : Bool) : jetsamref15_Fits (gA g) (cA c) last = some (fitB g c last) := by
  simp only [jetsamref15_Fits, cA_get, gA_get, fl_one_iff, fitB, sameP]
  by_cases h4 : c.Variable = g.Variable
  · by_cases h1 : c.Params.Rate = g.Params.Rate <;> by_cases h2 : c.Params.Channels = g.Params.Channels <;> by_cases h3 : c.Params.Depth = g.Params.Depth <;> simp [h1, h2, h3, h4]
    by_cases h5 : g.Variable = true <;> by_cases h6 : c.Block = g.Block <;> cases last <;> simp [h5, h6]
  · have : fl c.Variable ≠ fl g.Variable := fun e => h4 (fl_inj e)
    simp [this, h4]
theorem followsR_eq (a b : chain_Cand) (ha : mayB a = true) : jetsamref15_Follows (cA a) (cA b) = some (folB a b) := by
  rw [mayB_iff] at ha
  unfold M40 at ha
  have w1 : W (a.Number + a.Block) = a.Number + a.Block := W_id (by omega) (by omega)
  have w3 : W (a.Offset + a.Size) = a.Offset + a.Size := W_id (by omega) (by omega)
  simp only [jetsamref15_Follows, cA_get, fl_one_iff, folB, w1, w3]
  by_cases h : a.Offset + a.Size ≤ b.Offset
  · have h' : ¬ b.Offset < a.Offset + a.Size := by omega
    by_cases hv : b.Variable = true
    · simp [h, h', hv]
    · simp [h, h', hv, Int.lt_iff_add_one_le]
  · have h' : b.Offset < a.Offset + a.Size := by omega
    simp [h, h']
end Go.Vg
