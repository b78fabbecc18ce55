/- The statements that need no reference: in what order candidates are told; more of them; no chain is heavier. -/
import Derived.Test.YthnbhhifehkggaaPe
set_option maxRecDepth 4000
set_option linter.all false
set_option linter.unusedVariables false
set_option linter.unusedSimpArgs false
namespace Go.Vg
open Go
theorem hv_congr {l m : List chain_Cand} (hl : l.length ≤ 1000) (hm : m.length ≤ 1000) (h : srt l = srt m) (g : chain_Guess) : hv g l = hv g m := by
  have e : chain_Heaviest g l = chain_Heaviest g m := by
    unfold chain_Heaviest
    rw [sorted2_eq l (by omega), sorted2_eq m (by omega), h]
  rw [(hv_spec g l hl).1, (hv_spec g m hm).1] at e
  exact congrArg Prod.fst (Option.some.inj e)
theorem bst_congr {l m : List chain_Cand} (hl : l.length ≤ 1000) (hm : m.length ≤ 1000) (h : srt l = srt m) : bst l = bst m := by
  have e1 : bestS l = bestS m := by
    funext s g
    unfold bestS
    rw [hv_congr hl hm h]
  unfold bst
  rw [e1]
  unfold gss
  rw [h]
theorem two_guard (p q : Bool) : (if p = true then true else q) = (p || q) := by cases p <;> rfl
theorem two_and (p q : Bool) : (if p = true then q else false) = (p && q) := by cases p <;> rfl
theorem ss_sub {α : Type} (lt : α → α → Bool) (hi : ∀ a, lt a a = false) (hab : ∀ a b, lt a b = true → lt b a = false) : ∀ (S c : List α), SS lt c → SS lt S → (∀ x, x ∈ c → x ∈ S) → c.Sublist S
  | S, [], _, _, _ => List.nil_sublist S
  | [], x :: c, _, _, h => absurd (h x (by simp)) (by simp)
  | s :: S, x :: c, hc, hS, h => by
    have hc' := List.pairwise_cons.1 hc
    have hS' := List.pairwise_cons.1 hS
    have rest : ∀ y, y ∈ c → y ≠ x := fun y hy e => by subst e; have := hc'.1 y hy; rw [hi] at this; cases this
    rcases List.mem_cons.1 (h x (by simp)) with e | e
    · subst e
      refine List.Sublist.cons₂ _ (ss_sub lt hi hab S c hc'.2 hS'.2 fun y hy => ?_)
      rcases List.mem_cons.1 (h y (by simp [hy])) with q | q
      · exact absurd q (rest y hy)
      · exact q
    · refine List.Sublist.cons _ (ss_sub lt hi hab S (x :: c) hc hS'.2 fun y hy => ?_)
      rcases List.mem_cons.1 hy with q | q
      · subst q; exact e
      · rcases List.mem_cons.1 (h y (by simp [q])) with q' | q'
        · subst q'
          have h1 := hc'.1 y q
          have h2 := hS'.1 x e
          rw [hab _ _ h1] at h2; cases h2
        · exact q'
theorem chn_ss {g : chain_Guess} : ∀ {c : List chain_Cand}, IsCh g c → (∀ x, x ∈ c → mayB x = true) → SS cless c
  | [x], _, _ => List.pairwise_singleton _ _
  | x :: y :: r, h, hm => by
    have ih := chn_ss h.2.2 fun z hz => hm z (by simp at hz ⊢; exact .inr hz)
    have hxy := fol_lt (hm x (by simp)) h.2.1
    refine List.pairwise_cons.2 ⟨fun z hz => ?_, ih⟩
    rcases List.mem_cons.1 hz with rfl | hz
    · exact hxy
    · exact lexLt_trans _ _ _ hxy ((List.pairwise_cons.1 ih).1 z hz)
theorem chn_sub {g : chain_Guess} {l c : List chain_Cand} (h : Chn g l c) : c.Sublist (srt l) :=
  ss_sub cless (fun a => lexLt_irrefl _) (fun a b => lexLt_asym _ _) _ _ (chn_ss h.1 fun x hx => (h.2 x hx).2) (srt_ss l) fun x hx => (srt_mem _ _).2 (h.2 x hx)
theorem chn_len {g : chain_Guess} {l c : List chain_Cand} (h : Chn g l c) : c.length ≤ l.length := Nat.le_trans (chn_sub h).length_le (srt_len l)
theorem bst_len (l : List chain_Cand) (hl : l.length ≤ 1000) : (bst l).2.length ≤ l.length := by
  rcases bst_spec l hl with ⟨h, _⟩ | ⟨_, _, h, _⟩
  · rw [h]; simp
  · exact chn_len h
theorem turns (l : List chain_Cand) (from_ : Int) : jetsamlaw15_ChainTurns l from_ = some true := by
  unfold jetsamlaw15_ChainTurns
  rw [two_guard]
  cases hg : (decide ((l.length : Int) > 100) || (l.length : Int) == 0) with
  | true => rw [if_pos rfl, awake15]; rfl
  | false =>
  rw [if_neg (by simp)]
  simp only [Bool.or_eq_false_iff, decide_eq_false_iff_not, beq_eq_false_iff_ne, ne_eq] at hg
  have hc2 : l.length ≤ 100 ∧ l.length ≠ 0 := by omega
  obtain ⟨hn, hn0⟩ := hc2
  generalize hN : l.length = n at *
  have hr1 := Int.tmod_lt_of_pos from_ (b := (n : Int)) (by omega)
  have hr2 := Int.lt_tmod_of_pos from_ (b := (n : Int)) (by omega)
  have w1 : W (from_.tmod (n : Int) + n) = from_.tmod (n : Int) + n := W_id (by omega) (by omega)
  obtain ⟨r, hr⟩ : ∃ r : Nat, (W (from_.tmod (n : Int) + n)).tmod n = (r : Int) ∧ r < n := by
    rw [w1]
    have h1 := Int.tmod_nonneg (a := from_.tmod (n : Int) + n) (n : Int) (by omega)
    have h2 := Int.tmod_lt_of_pos (from_.tmod (n : Int) + n) (b := (n : Int)) (by omega)
    exact ⟨_, (Int.toNat_of_nonneg h1).symm, by omega⟩
  have ix : ∀ k : Nat, k ≤ n → (W ((r : Int) + k)).tmod n = (((r + k) % n : Nat) : Int) := fun k hk => by
    rw [W_id (by omega) (by omega), show ((r : Int) + k) = ((r + k : Nat) : Int) by omega, Int.ofNat_tmod]
  refine iter_eq (fun a => ∃ k : Nat, a.1 = (k : Int) ∧ k ≤ n + 1 ∧ a.2.length = k ∧ (∀ x, x ∈ a.2 → x ∈ l) ∧ ∀ i, i < k → ∀ x, l[(r + i) % n]? = some x → x ∈ a.2) (fun a => n + 1 - a.1.toNat) true (fun a ha => ?_) (a0 := ((0 : Int), [])) ⟨0, rfl, by omega, rfl, by simp, fun i hi => by omega⟩ (lt_ROUNDS (by simp only; omega))
  obtain ⟨k', m⟩ := a
  obtain ⟨k, rfl, hk, hm, hin, hall⟩ := ha
  simp only at hm hin hall
  simp only [jetsamlaw15_ChainTurns_L1, hN]
  by_cases hle : k ≤ n
  · left
    have hlt : (r + k) % n < l.length := by rw [hN]; exact Nat.mod_lt _ (by omega)
    have hx : l[(r + k) % n]? = some l[(r + k) % n] := List.getElem?_eq_getElem hlt
    have wk : W ((k : Int) + 1) = ((k + 1 : Nat) : Int) := by rw [W_id (by omega) (by omega)]; omega
    have hne : ((n : Int) != 0) = true := by simp; omega
    rw [if_pos (by simpa using (show (k : Int) ≤ n by omega)), need_ok hne, need_ok hne, need_ok hne, hr.1, ix k hle, idx_ok hx, Option.bind_some, app_ok (by simp; omega), Option.bind_some, wk]
    refine ⟨_, rfl, ⟨k + 1, rfl, by omega, by simp [hm], fun x hx' => ?_, fun i hi x hxi => ?_⟩, by simp only; omega⟩
    · rcases List.mem_append.1 hx' with h | h
      · exact hin x h
      · simp at h; subst h; exact List.getElem_mem hlt
    · by_cases e : i = k
      · subst e; rw [hx] at hxi; cases hxi; simp
      · exact List.mem_append_left _ (hall i (by omega) x hxi)
  · right
    have hk' : k = n + 1 := by omega
    subst hk'
    rw [if_neg (by simpa using (show ¬ ((n + 1 : Nat) : Int) ≤ n by omega))]
    have hmem : ∀ x, x ∈ l ↔ x ∈ m := fun x => by
      refine ⟨fun hx => ?_, hin x⟩
      obtain ⟨i, hi⟩ := List.mem_iff_getElem?.1 hx
      have hil : i < n := by rw [← hN]; exact (List.getElem?_eq_some_iff.1 hi).1
      have hr2 := hr.2
      refine hall ((i + n - r) % n) (by have := Nat.mod_lt (i + n - r) (show 0 < n by omega); omega) x ?_
      have : (r + (i + n - r) % n) % n = i := by
        rw [Nat.add_mod_mod, show r + (i + n - r) = i + n by omega, Nat.add_mod_right, Nat.mod_eq_of_lt hil]
      rw [this]; exact hi
    have e := bst_congr (l := l) (m := m) (by omega) (by omega) (srt_congr hmem)
    have hc0 : (bst m).2.length ≤ 100000 := by have := bst_len m (by omega); omega
    simp only [jetsamlaw15_ChainTurns_K1]
    rw [best_eq l (by omega), Option.bind_some, best_eq m (by omega), Option.bind_some, e]
    simp only [guessEq, decide_true, if_true]
    rw [same_eq _ _ hc0]
    simp [awake15]

/-! ### More candidates -/
theorem chn_more {g : chain_Guess} {l m c : List chain_Cand} (h : Chn g l c) (hs : ∀ x, x ∈ l → x ∈ m) : Chn g m c := ⟨h.1, fun x hx => ⟨hs x (h.2 x hx).1, (h.2 x hx).2⟩⟩
theorem gss_more {g : chain_Guess} {l m : List chain_Cand} (h : g ∈ gss l) (hs : ∀ x, x ∈ l → x ∈ m) : g ∈ gss m := by
  rw [gss_mem] at h ⊢
  obtain ⟨c, h1, h2⟩ := h
  exact ⟨c, hs c h1, h2⟩
theorem bst_more {l m : List chain_Cand} (hl : l.length ≤ 1000) (hm : m.length ≤ 1000) (hs : ∀ x, x ∈ l → x ∈ m) : wt (bst l).2 ≤ wt (bst m).2 := by
  rcases bst_spec l hl with ⟨h, _⟩ | ⟨h1, _, h3, _⟩
  · rw [h]; simp only [wt]; exact wt_bst_nonneg m hm
  · exact bst_max hm (gss_more h1 hs) (chn_more h3 hs)
/-- Which guess a candidate has that begins a chain of two or more. -/
theorem gof_fit {g : chain_Guess} {x : chain_Cand} (h : fitB g x false = true) (hg : g.Variable = true → g.Block = 0) : gof x = g := by
  simp only [fitB, sameP, Bool.and_eq_true, Bool.or_eq_true, decide_eq_true_eq, Bool.false_and, Bool.false_eq_true, or_false] at h
  obtain ⟨⟨h1, h2, h3, h4⟩, h5⟩ := h
  obtain ⟨⟨a, b, c⟩, d, e⟩ := g
  obtain ⟨⟨a', b', c'⟩, d', e', f', i', j'⟩ := x
  simp only at h1 h2 h3 h4 h5 hg
  subst h1; subst h2; subst h3; subst h4
  simp only [gof, chain_Guess.mk.injEq, true_and]
  rcases h5 with h5 | h5
  · rw [if_pos h5, hg h5]
  · cases j' with
    | true => simp [hg rfl]
    | false => simpa using h5
theorem gof_var (c : chain_Cand) : (gof c).Variable = true → (gof c).Block = 0 := fun h => by
  simp only [gof] at h ⊢
  rw [if_pos h]
theorem fit_gof (c : chain_Cand) : fitB (gof c) c true = true := by
  by_cases h : c.Variable = true
  · simp [fitB, sameP, gof, h]
  · simp [fitB, sameP, gof, h]
theorem wt_sub {a b : List chain_Cand} (h : a.Sublist b) (hm : ∀ x, x ∈ b → mayB x = true) : wt a ≤ wt b ∧ (wt a = wt b → a = b) := by
  induction h with
  | slnil => exact ⟨Int.le_refl _, fun _ => rfl⟩
  | cons x h ih =>
    have := ih fun y hy => hm y (by simp [hy])
    have hx := mayB_iff.1 (hm x (by simp))
    simp only [wt]
    exact ⟨by omega, fun e => by omega⟩
  | cons_cons x h ih =>
    have := ih fun y hy => hm y (by simp [hy])
    simp only [wt]
    exact ⟨by omega, fun e => by rw [this.2 (by omega)]⟩
theorem srt_self {g : chain_Guess} {l c : List chain_Cand} (h : Chn g l c) : srt c = c :=
  ss_uniqueC _ _ (srt_ss c) (chn_ss h.1 fun x hx => (h.2 x hx).2) fun x => by rw [srt_mem]; exact ⟨fun h => h.1, fun hx => ⟨hx, (h.2 x hx).2⟩⟩
/-- **The best chain of a best chain's candidates is that one.** -/
theorem bst_idem (l : List chain_Cand) (hl : l.length ≤ 1000) : (bst (bst l).2).2 = (bst l).2 := by
  have hbl := bst_len l hl
  rcases bst_spec l hl with ⟨h, _⟩ | ⟨h1, h2, h3, _⟩
  · rw [h]; rfl
  generalize hb : (bst l).1 = b at h1 h2 h3
  generalize hc : (bst l).2 = c at h2 h3 hbl
  have hcl : c.length ≤ 1000 := by omega
  have hch : Chn b c c := ⟨h3.1, fun x hx => ⟨hx, (h3.2 x hx).2⟩⟩
  have hvar : b.Variable = true → b.Block = 0 := by
    rw [gss_mem] at h1
    obtain ⟨q, _, _, rfl⟩ := h1
    exact gof_var q
  have all : ∀ g d, Chn g c d → wt d ≤ wt c ∧ (wt d = wt c → d = c) := fun g d hd => by
    have := chn_sub hd
    rw [srt_self h3] at this
    exact wt_sub this fun x hx => (h3.2 x hx).2
  -- some guess of these candidates has the whole chain
  have hg : ∃ g, g ∈ gss c ∧ Chn g c c := by
    match c, h3, hch with
    | [x], h3, hch => exact ⟨gof x, (gss_mem _ _).2 ⟨x, by simp, (h3.2 x (by simp)).2, rfl⟩, ⟨fit_gof x, hch.2⟩⟩
    | x :: y :: r, h3, hch => exact ⟨b, (gss_mem _ _).2 ⟨x, by simp, (h3.2 x (by simp)).2, gof_fit h3.1.1 hvar⟩, hch⟩
    | [], h3, _ => exact absurd h3.1 (by simp [IsCh])
  obtain ⟨g, hg1, hg2⟩ := hg
  have hmx := bst_max hcl hg1 hg2
  rcases bst_spec c hcl with ⟨h, _⟩ | ⟨_, _, q3, _⟩
  · rw [h] at hmx
    have := chn_pos hg2
    simp only [wt] at hmx; omega
  · exact (all _ _ q3).2 (by have := (all _ _ q3).1; omega)
theorem more (l m : List chain_Cand) : jetsamlaw15_ChainMore l m = some true := by
  unfold jetsamlaw15_ChainMore
  rw [two_guard]
  cases hg : (decide ((l.length : Int) > 60) || decide ((m.length : Int) > 60)) with
  | true => rw [if_pos rfl, awake15]; rfl
  | false =>
  rw [if_neg (by simp)]
  simp only [Bool.or_eq_false_iff, decide_eq_false_iff_not] at hg
  have hl : l.length ≤ 60 := by omega
  have hm : m.length ≤ 60 := by omega
  have hb := bst_len l (by omega)
  rw [best_eq l (by omega), Option.bind_some, app_ok (by simp; omega), Option.bind_some, app_ok (by simp; omega), Option.bind_some, best_eq _ (by simp; omega), Option.bind_some, best_eq _ (by simp only; omega), Option.bind_some]
  have h1 : wt (bst l).2 ≤ wt (bst ([] ++ l ++ m)).2 := bst_more (by omega) (by simp; omega) fun x hx => by simp [hx]
  simp only [bst_idem l (by omega), two_and]
  rw [if_pos (by simpa using h1), same_eq _ _ (by omega)]
  simp [awake15]
end Go.Vg
