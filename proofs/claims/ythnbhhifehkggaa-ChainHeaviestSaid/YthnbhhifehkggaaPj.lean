/- The reference's heaviest chain, and its guesses, are the program's. -/
import Derived.Test.YthnbhhifehkggaaPi
set_option maxRecDepth 4000
set_option linter.all false
set_option linter.unusedVariables false
set_option linter.unusedSimpArgs false
namespace Go.Vg
open Go
theorem bind_map_inr {A T : Type} {x : Option A} : (x.map (Sum.inr (α := T))) = x.bind fun r => some (Sum.inr r) := by cases x <;> rfl
/-- A candidate more, in order. -/
theorem insC_eq (y1 : List (Nat → Int)) (S : List chain_Cand) (k : Nat) (x : chain_Cand) (hx : y1[k]? = some (cA x)) (hk : k < 1000) (hS : S.length ≤ 1000) :
    iter (jetsamref15_Heaviest_L4 y1 ((k : Int), S.map cA)) 0 = some (.inl (((k + 1 : Nat) : Int), (insP cless x S).map cA)) := by
  have hw : W ((k : Int) + 1) = ((k + 1 : Nat) : Int) := by rw [W_id (by omega) (by omega)]; omega
  have hp := posI_le cless x S
  refine find_loop (fun _ => True) S.length (posI cless x S) hp (by omega) _ (fun j hj => ?_) ?_
  · have hjl : j < S.length := by omega
    have e1 : S[j]? = some S[j] := List.getElem?_eq_getElem hjl
    have hwj : W ((j : Int) + 1) = ((j + 1 : Nat) : Int) := by rw [W_id (by omega) (by omega)]; omega
    have hlt : cless S[j] x = true := posI_lt cless x S j _ hj e1
    simp only [jetsamref15_Heaviest_L4, List.length_map]
    rw [if_pos (by simp; omega), need_ok (by simp), need_ok (by simp; omega), idx_ok (getmap e1), Option.bind_some, idx_ok hx, Option.bind_some, ahead_eq, hlt, Option.bind_some]
    simp only [jetsamref15_Heaviest_K9, if_true, hwj]
  · have fin : (jetsamref15_Heaviest_K7 y1 ((k : Int), S.map cA) (posI cless x S : Int)) = some (.inl (((k + 1 : Nat) : Int), (insP cless x S).map cA)) := by
      have ins : ∀ b : Bool, (b = true ↔ S[posI cless x S]? = some x) → jetsamref15_Heaviest_K8 y1 ((k : Int), S.map cA) (posI cless x S : Int) b = some (.inl (((k + 1 : Nat) : Int), (insP cless x S).map cA)) := fun b hb => by
        have z0 : sub (S.map cA) 0 (posI cless x S : Int) = some ((S.take (posI cless x S)).map cA) := by
          have := sub_ok (l := S.map cA) (i := 0) (j := posI cless x S) (by omega) (by simpa using hp)
          rw [show ((0 : Nat) : Int) = 0 from rfl] at this
          rw [this]; simp [List.map_take]
        have z1 : sub (S.map cA) (posI cless x S : Int) (S.length : Int) = some ((S.drop (posI cless x S)).map cA) := by
          rw [sub_ok hp (by simp), List.take_of_length_le (by simp), List.map_drop]
        simp only [jetsamref15_Heaviest_K8, insP, jetsamref15_Heaviest_K6, hw]
        by_cases e : S[posI cless x S]? = some x
        · rw [if_pos (hb.2 e), if_pos e]
        · rw [if_neg (fun h => e (hb.1 h)), if_neg e, List.length_map, z0, Option.bind_some, app_ok (by simp; omega), Option.bind_some, idx_ok hx, Option.bind_some, app_ok (by simp; omega), Option.bind_some, z1, Option.bind_some, app_ok (by simp; omega), Option.bind_some]
          simp
      simp only [jetsamref15_Heaviest_K7, List.length_map]
      by_cases hlt : posI cless x S < S.length
      · have e1 : S[posI cless x S]? = some S[posI cless x S] := List.getElem?_eq_getElem hlt
        rw [if_pos (by simp; omega), need_ok (by simp), need_ok (by simp; omega), idx_ok (getmap e1), Option.bind_some, idx_ok hx, Option.bind_some, cA_beq]
        exact ins _ (by rw [e1]; simp)
      · rw [if_neg (by simp; omega)]
        exact ins false (by rw [List.getElem?_eq_none (by omega)]; simp)
    simp only [jetsamref15_Heaviest_L4, List.length_map]
    by_cases hlt : posI cless x S < S.length
    · have e1 : S[posI cless x S]? = some S[posI cless x S] := List.getElem?_eq_getElem hlt
      have hge : cless S[posI cless x S] x = false := posI_at cless x S _ e1
      rw [if_pos (by simp; omega), need_ok (by simp), need_ok (by simp; omega), idx_ok (getmap e1), Option.bind_some, idx_ok hx, Option.bind_some, ahead_eq, hge, Option.bind_some]
      simp only [jetsamref15_Heaviest_K9, Bool.false_eq_true, if_false, fin, Option.map_some]
    · rw [if_neg (by simp; omega)]
      simp only [jetsamref15_Heaviest_K9, Bool.false_eq_true, if_false, fin, Option.map_some]

/-! ### Parts of a list, by the bits of a number -/
def selB {α : Type} : Nat → List α → List α
  | _, [] => []
  | p, x :: r => if p % 2 = 1 then x :: selB (p / 2) r else selB (p / 2) r
theorem selB_sub {α : Type} : ∀ (p : Nat) (l : List α), (selB p l).Sublist l
  | _, [] => by simp [selB]
  | p, x :: r => by
    simp only [selB]
    split
    · exact (selB_sub (p / 2) r).cons_cons x
    · exact (selB_sub (p / 2) r).cons x
theorem selB_zero {α : Type} (l : List α) : selB 0 l = [] := by
  induction l with
  | nil => rfl
  | cons x r ih => simpa [selB] using ih
theorem selB_all {α : Type} {c l : List α} (h : c.Sublist l) : ∃ p, p < 2 ^ l.length ∧ selB p l = c := by
  induction h with
  | slnil => exact ⟨0, by simp, rfl⟩
  | cons x h ih =>
    obtain ⟨p, h1, h2⟩ := ih
    refine ⟨2 * p, by rw [List.length_cons, Nat.pow_succ]; omega, ?_⟩
    have e1 : 2 * p % 2 = 0 := by omega
    have e2 : 2 * p / 2 = p := by omega
    simp [selB, e1, e2, h2]
  | cons_cons x h ih =>
    obtain ⟨p, h1, h2⟩ := ih
    refine ⟨2 * p + 1, by rw [List.length_cons, Nat.pow_succ]; omega, ?_⟩
    have e1 : (2 * p + 1) % 2 = 1 := by omega
    have e2 : (2 * p + 1) / 2 = p := by omega
    simp [selB, e1, e2, h2]
theorem shl_eq (n : Nat) (hn : n ≤ 60) : shD .shl .i64 1 (n : Int) = ((2 ^ n : Nat) : Int) := by
  simp only [shD, Int.toNat_natCast]
  have : min n IntKind.i64.bits = n := by simp [IntKind.bits]; omega
  rw [this, Int.one_mul]
  have h2 : (2 : Nat) ^ n ≤ 2 ^ 60 := Nat.pow_le_pow_right (by omega) hn
  have e : ((2 : Int) ^ n) = ((2 ^ n : Nat) : Int) := by simp
  rw [e]
  generalize (2 : Nat) ^ n = m at h2
  exact wrap64 (by omega) (by omega)
theorem shr_eq (p k : Nat) (hk : k ≤ 60) : (shD .shr .i64 (p : Int) (k : Int)).tmod 2 = ((p / 2 ^ k % 2 : Nat) : Int) := by
  simp only [shD, Int.toNat_natCast]
  have : min k IntKind.i64.bits = k := by simp [IntKind.bits]; omega
  rw [this]
  have e : ((2 : Int) ^ k) = ((2 ^ k : Nat) : Int) := by simp
  rw [e, Int.fdiv_eq_ediv_of_nonneg _ (Int.natCast_nonneg _)]
  rw [← Int.natCast_ediv, show (2 : Int) = ((2 : Nat) : Int) from rfl, ← Int.ofNat_tmod]
/-- What is held against what was best so far. -/
def stepB (g : chain_Guess) (best c : List chain_Cand) : List chain_Cand := if rgB g c = true then (if best.length = 0 then c else if lessB c best = true then c else best) else best
theorem part_eq (g : chain_Guess) (S : List chain_Cand) (best : List chain_Cand) (p : Nat) (hS : S.length ≤ 20) (hp : p < 2 ^ 21) (hb : ∀ x, x ∈ best → mayB x = true) (hbl : best.length ≤ 1000) :
    iter (jetsamref15_Heaviest_L2 (gA g) (S.map cA) (best.map cA, (p : Int))) (0, []) = some (.inl ((stepB g best (selB p S)).map cA, ((p + 1 : Nat) : Int))) := by
  have hw : W ((p : Int) + 1) = ((p + 1 : Nat) : Int) := by rw [W_id (by omega) (by omega)]; omega
  refine iter_eq (fun a => ∃ (k : Nat) (acc : List chain_Cand), a = ((k : Int), acc.map cA) ∧ k ≤ S.length ∧ acc.length ≤ k ∧ acc ++ selB (p / 2 ^ k) (S.drop k) = selB p S) (fun a => S.length - a.1.toNat) _ (fun a ha => ?_) (a0 := ((0 : Int), [])) ⟨0, [], rfl, Nat.zero_le _, by simp, by simp⟩ (lt_ROUNDS (by simp only; omega))
  obtain ⟨k, acc, rfl, hk, hacc, he⟩ := ha
  simp only [jetsamref15_Heaviest_L2, List.length_map]
  by_cases hlt : k < S.length
  · left
    have e1 : S[k]? = some S[k] := List.getElem?_eq_getElem hlt
    have hwk : W ((k : Int) + 1) = ((k + 1 : Nat) : Int) := by rw [W_id (by omega) (by omega)]; omega
    rw [List.drop_eq_getElem_cons hlt] at he
    simp only [selB] at he
    have hdd : p / 2 ^ k / 2 = p / 2 ^ (k + 1) := by rw [Nat.div_div_eq_div_mul, Nat.pow_succ]
    rw [hdd] at he
    rw [if_pos (by simp; omega), need_ok (by simp), shr_eq p k (by omega)]
    by_cases hbit : p / 2 ^ k % 2 = 1
    · rw [if_pos (by rw [hbit]; rfl), need_ok (by simp), need_ok (by simp; omega), idx_ok (getmap e1), Option.bind_some, app_ok (by simp; omega), Option.bind_some]
      simp only [jetsamref15_Heaviest_K5, hwk]
      rw [if_pos hbit] at he
      exact ⟨_, rfl, ⟨k + 1, acc ++ [S[k]], by simp, by omega, by simp; omega, by simpa using he⟩, by simp only; omega⟩
    · have h0 : p / 2 ^ k % 2 = 0 := by omega
      rw [if_neg (by rw [h0]; simp)]
      simp only [jetsamref15_Heaviest_K5, hwk]
      rw [if_neg hbit] at he
      exact ⟨_, rfl, ⟨k + 1, acc, rfl, by omega, by omega, he⟩, by simp only; omega⟩
  · right
    have hkk : k = S.length := by omega
    subst hkk
    rw [List.drop_of_length_le (Nat.le_refl _)] at he
    have he : acc = selB p S := by simpa [selB] using he
    have hcl : acc.length ≤ 1000 := by omega
    rw [if_neg (by simp)]
    subst he
    simp only [jetsamref15_Heaviest_K4, rightR_eq g _ hcl, Option.bind_some, jetsamref15_Heaviest_K3, hw, List.length_map, stepB]
    by_cases hr : rgB g (selB p S) = true
    · have hmc := (rgB_iff.1 hr).2
      have hr' : (rsB g none (selB p S) && decide (0 < (selB p S).length)) = true := hr
      rw [if_pos hr', if_pos hr]
      by_cases hb0 : best.length = 0
      · rw [if_pos (by simp [hb0]), if_pos hb0]; rfl
      · rw [if_neg (by simpa using hb0), if_neg hb0, lessR_eq _ _ hmc hb hcl hbl, Option.bind_some]
        by_cases hl : lessB (selB p S) best = true
        · rw [if_pos hl, if_pos hl]; rfl
        · rw [if_neg hl, if_neg hl]; rfl
    · have hr' : ¬ (rsB g none (selB p S) && decide (0 < (selB p S).length)) = true := hr
      rw [if_neg hr', if_neg hr]; rfl
/-- All parts that were tried. -/
def Tried (g : chain_Guess) (S : List chain_Cand) (q : Nat) (best : List chain_Cand) : Prop :=
  (best = [] ∧ ∀ p, p < q → rgB g (selB p S) = false) ∨ (rgB g best = true ∧ best.Sublist S ∧ ∀ p, p < q → rgB g (selB p S) = true → selB p S = best ∨ bet best (selB p S))
theorem tried_step {g : chain_Guess} {S : List chain_Cand} {q : Nat} {best : List chain_Cand} (h : Tried g S q best) : Tried g S (q + 1) (stepB g best (selB q S)) := by
  unfold stepB
  by_cases hr : rgB g (selB q S) = true
  · rw [if_pos hr]
    rcases h with ⟨rfl, h⟩ | ⟨h1, h2, h3⟩
    · rw [if_pos (show ([] : List chain_Cand).length = 0 from rfl)]
      refine .inr ⟨hr, selB_sub q S, fun p hp hrp => ?_⟩
      by_cases e : p = q
      · subst e; exact .inl rfl
      · have := h p (by omega); rw [this] at hrp; cases hrp
    · have hne : ¬ best.length = 0 := fun e => by
        have : best = [] := List.eq_nil_of_length_eq_zero e
        subst this
        exact absurd (rgB_iff.1 h1).1 (by simp [IsCh])
      rw [if_neg hne]
      by_cases hl : lessB (selB q S) best = true
      · rw [if_pos hl]
        have hb := lessB_iff.1 hl
        refine .inr ⟨hr, selB_sub q S, fun p hp hrp => ?_⟩
        by_cases e : p = q
        · subst e; exact .inl rfl
        · right
          rcases h3 p (by omega) hrp with e' | e'
          · rw [e']; exact hb
          · exact bet_trans hb e'
      · rw [if_neg hl]
        refine .inr ⟨h1, h2, fun p hp hrp => ?_⟩
        by_cases e : p = q
        · subst e
          rcases bet_tot (rgB_iff.1 hr).2 (rgB_iff.1 h1).2 (fun hb => hl (lessB_iff.2 hb)) with e' | e'
          · exact .inl e'
          · exact .inr e'
        · exact h3 p (by omega) hrp
  · rw [if_neg hr]
    rcases h with ⟨rfl, h⟩ | ⟨h1, h2, h3⟩
    · refine .inl ⟨rfl, fun p hp => ?_⟩
      by_cases e : p = q
      · subst e; simpa using hr
      · exact h p (by omega)
    · refine .inr ⟨h1, h2, fun p hp hrp => ?_⟩
      by_cases e : p = q
      · subst e; exact absurd hrp hr
      · exact h3 p (by omega) hrp
/-- **The reference's heaviest chain is the program's.** -/
theorem heaviestR_eq (g : chain_Guess) (l : List chain_Cand) (hl : l.length ≤ 9) : jetsamref15_Heaviest (gA g) (l.map cA) = some ((hv g l).map cA) := by
  unfold jetsamref15_Heaviest
  refine iter_eq (fun a => ∃ (k : Nat) (S : List chain_Cand), a = ((k : Int), S.map cA) ∧ k ≤ l.length ∧ SS cless S ∧ (∀ x, x ∈ S ↔ x ∈ l.take k) ∧ S.length ≤ k) (fun a => l.length - a.1.toNat) _ (fun a ha => ?_) (a0 := ((0 : Int), [])) ⟨0, [], rfl, Nat.zero_le _, .nil, by simp, by simp⟩ (lt_ROUNDS (by simp only; omega))
  obtain ⟨k, S, rfl, hk, hss, hmem, hsl⟩ := ha
  simp only [jetsamref15_Heaviest_L3, List.length_map]
  by_cases hlt : k < l.length
  · left
    have e1 : l[k]? = some l[k] := List.getElem?_eq_getElem hlt
    rw [if_pos (by simp; omega), insC_eq (l.map cA) S k l[k] (getmap e1) (by omega) (by omega)]
    obtain ⟨h1, h2, h3⟩ := insP_spec cless cless_tot (fun a b c => lexLt_trans _ _ _) l[k] S hss
    refine ⟨_, rfl, ⟨k + 1, _, rfl, by omega, h1, fun x => ?_, by omega⟩, by simp only; omega⟩
    rw [h2, hmem, List.take_add_one, e1, List.mem_append]
    exact ⟨fun h => h.imp id fun e => by rw [e]; exact List.mem_singleton_self _, fun h => h.imp id fun e => List.mem_singleton.1 e⟩
  · right
    have hkk : k = l.length := by omega
    subst hkk
    rw [List.take_length] at hmem
    rw [if_neg (by simp)]
    have hS : S.length ≤ 9 := by omega
    have key : jetsamref15_Heaviest_K1 (gA g) (S.map cA) = some ((hv g l).map cA) := by
      unfold jetsamref15_Heaviest_K1
      have hpow : 2 ^ S.length ≤ 2 ^ 9 := Nat.pow_le_pow_right (by omega) hS
      refine iter_eq (fun a => ∃ (q : Nat) (best : List chain_Cand), a = (best.map cA, (q : Int)) ∧ q ≤ 2 ^ S.length ∧ Tried g S q best) (fun a => 2 ^ S.length - a.2.toNat) _ (fun a ha => ?_) (a0 := ([], (1 : Int))) ⟨1, [], rfl, Nat.one_le_two_pow, .inl ⟨rfl, fun p hp => ?_⟩⟩ (lt_ROUNDS (by simp only; omega))
      · obtain ⟨q, best, rfl, hq, ht⟩ := ha
        have hbm : (∀ x, x ∈ best → mayB x = true) ∧ best.length ≤ 1000 := by
          rcases ht with ⟨rfl, _⟩ | ⟨h1, h2, _⟩
          · simp
          · exact ⟨(rgB_iff.1 h1).2, by have := h2.length_le; omega⟩
        simp only [jetsamref15_Heaviest_L1, List.length_map, shl_eq S.length (by omega)]
        by_cases hqn : q < 2 ^ S.length
        · left
          rw [if_pos (by simpa using (show (q : Int) < ((2 ^ S.length : Nat) : Int) by omega)), part_eq g S best q (by omega) (by omega) hbm.1 hbm.2]
          exact ⟨_, rfl, ⟨q + 1, _, rfl, by omega, tried_step ht⟩, by simp only; omega⟩
        · right
          have hqq : q = 2 ^ S.length := by omega
          rw [if_neg (by simpa using (show ¬ (q : Int) < ((2 ^ S.length : Nat) : Int) by omega))]
          simp only [jetsamref15_Heaviest_K2, Option.map_some]
          have inS : ∀ d, Chn g l d → ∃ p, p < q ∧ selB p S = d := fun d hd => by
            have hsub := ss_sub cless (fun a => lexLt_irrefl _) (fun a b => lexLt_asym _ _) S d (chn_ss hd.1 fun x hx => (hd.2 x hx).2) hss fun x hx => (hmem x).2 (hd.2 x hx).1
            rw [hqq]; exact selB_all hsub
          have rg : ∀ d, Chn g l d → rgB g d = true := fun d hd => rgB_iff.2 ⟨hd.1, fun x hx => (hd.2 x hx).2⟩
          have e : best = hv g l := by
            rcases ht with ⟨rfl, h⟩ | ⟨h1, h2, h3⟩
            · rcases hv_nil (g := g) (l := l) (by omega) with h' | h'
              · exact h'.symm
              · obtain ⟨p, hp, he⟩ := inS _ h'
                have := h p hp
                rw [he, rg _ h'] at this; cases this
            · have hc := rgB_iff.1 h1
              have hch : Chn g l best := ⟨hc.1, fun x hx => ⟨(hmem x).1 (h2.subset hx), hc.2 x hx⟩⟩
              obtain ⟨q1, _, q2⟩ := hv_max (l := l) (by omega) hch
              rcases q2 with e | e
              · exact e
              · obtain ⟨p, hp, he⟩ := inS _ q1
                have := h3 p hp (by rw [he]; exact rg _ q1)
                rw [he] at this
                rcases this with e' | e'
                · exact e'.symm
                · exact absurd (bet_trans e e') (bet_irrefl _)
          rw [e]
      · have : p = 0 := by omega
        subst this
        rw [selB_zero]; rfl
    rw [key]; rfl
theorem maps_inj {a b : List chain_Cand} (h : a.map cA = b.map cA) : a = b := by
  refine List.map_inj_right (fun x y e => ?_) |>.1 h
  have := congrArg (fun f => [f 0, f 1, f 2, f 3, f 4, f 5, f 6, f 7]) e
  exact ckey_inj this
theorem alike_same (a : List chain_Cand) (hl : a.length ≤ 1000) : jetsamlaw15_alike (a.map cA) (a.map cA) = some true := by
  unfold jetsamlaw15_alike
  rw [if_neg (by simp)]
  refine iter_eq (fun i => ∃ k : Nat, i = (k : Int) ∧ k ≤ a.length) (fun i => a.length - i.toNat) _ (fun i hi => ?_) (a0 := (0 : Int)) ⟨0, rfl, Nat.zero_le _⟩ (lt_ROUNDS (by simp; omega))
  obtain ⟨k, rfl, hk⟩ := hi
  simp only [jetsamlaw15_alike_L1, List.length_map]
  by_cases hlt : k < a.length
  · left
    have e1 : a[k]? = some a[k] := List.getElem?_eq_getElem hlt
    have hw : W ((k : Int) + 1) = ((k + 1 : Nat) : Int) := by rw [W_id (by omega) (by omega)]; omega
    rw [if_pos (by simp; omega), idx_ok (getmap e1), Option.bind_some, Option.bind_some, cA_beq, if_neg (by simp), hw]
    exact ⟨_, rfl, ⟨k + 1, rfl, by omega⟩, by omega⟩
  · right
    rw [if_neg (by simp; omega)]; rfl
theorem hv_len {g : chain_Guess} {l : List chain_Cand} (hl : l.length ≤ 1000) : (hv g l).length ≤ l.length := by
  rcases hv_nil (g := g) hl with h | h
  · rw [h]; simp
  · exact chn_len h
theorem hv_may {g : chain_Guess} {l : List chain_Cand} (hl : l.length ≤ 1000) : ∀ x, x ∈ hv g l → mayB x = true := by
  rcases hv_nil (g := g) hl with h | h
  · rw [h]; simp
  · exact fun x hx => (h.2 x hx).2
/-- **Which chain of a guess is the heaviest one.** -/
theorem heaviest_law (g : chain_Guess) (l : List chain_Cand) : jetsamlaw15_ChainHeaviest g l = some true := by
  unfold jetsamlaw15_ChainHeaviest
  by_cases hg : l.length > 9
  · rw [if_pos (by simp; omega), awake15]; rfl
  have hl : l.length ≤ 9 := by omega
  have h1 := hv_len (g := g) (l := l) (by omega)
  rw [if_neg (by simp; omega), (hv_spec g l (by omega)).1, Option.bind_some, guessA_eq, Option.bind_some, cands_eq l (by omega), Option.bind_some, heaviestR_eq g l hl, Option.bind_some, cands_eq (hv g l) (by omega), Option.bind_some, alike_same (hv g l) (by omega), Option.bind_some, if_pos rfl, weightR_eq _ (hv_may (by omega)) (by omega), Option.bind_some, if_pos (by simp), awake15]
  rfl

/-! ### Guesses -/
theorem gofR_eq (c : chain_Cand) : jetsamref15_Of (cA c) = some (gA (gof c)) := by
  simp only [jetsamref15_Of, cA_get, fl_one_iff, jetsamref15_Of_K1, gof, gA]
  cases c.Variable <;> rfl
theorem insG_eq (S : List chain_Guess) (k : Nat) (x : chain_Guess) (hk : k < 1000) (hS : S.length ≤ 1000) :
    iter (jetsamref15_Guesses_L2 ((k : Int), S.map gA) (gA x)) 0 = some (.inl (((k + 1 : Nat) : Int), (insP gless x S).map gA)) := by
  have hw : W ((k : Int) + 1) = ((k + 1 : Nat) : Int) := by rw [W_id (by omega) (by omega)]; omega
  have hp := posI_le gless x S
  have gm : ∀ {j : Nat} {y : chain_Guess}, S[j]? = some y → (S.map gA)[j]? = some (gA y) := fun h => getmap h
  refine find_loop (fun _ => True) S.length (posI gless x S) hp (by omega) _ (fun j hj => ?_) ?_
  · have hjl : j < S.length := by omega
    have e1 : S[j]? = some S[j] := List.getElem?_eq_getElem hjl
    have hwj : W ((j : Int) + 1) = ((j + 1 : Nat) : Int) := by rw [W_id (by omega) (by omega)]; omega
    have hlt : gless S[j] x = true := posI_lt gless x S j _ hj e1
    simp only [jetsamref15_Guesses_L2, List.length_map]
    rw [if_pos (by simp; omega), need_ok (by simp), need_ok (by simp; omega), idx_ok (gm e1), Option.bind_some, before_eq, hlt, Option.bind_some]
    simp only [jetsamref15_Guesses_K5, if_true, hwj]
  · have fin : (jetsamref15_Guesses_K3 ((k : Int), S.map gA) (gA x) (posI gless x S : Int)) = some (.inl (((k + 1 : Nat) : Int), (insP gless x S).map gA)) := by
      have ins : ∀ b : Bool, (b = true ↔ S[posI gless x S]? = some x) → jetsamref15_Guesses_K4 ((k : Int), S.map gA) (gA x) (posI gless x S : Int) b = some (.inl (((k + 1 : Nat) : Int), (insP gless x S).map gA)) := fun b hb => by
        have z0 : sub (S.map gA) 0 (posI gless x S : Int) = some ((S.take (posI gless x S)).map gA) := by
          have := sub_ok (l := S.map gA) (i := 0) (j := posI gless x S) (by omega) (by simpa using hp)
          rw [show ((0 : Nat) : Int) = 0 from rfl] at this
          rw [this]; simp [List.map_take]
        have z1 : sub (S.map gA) (posI gless x S : Int) (S.length : Int) = some ((S.drop (posI gless x S)).map gA) := by
          rw [sub_ok hp (by simp), List.take_of_length_le (by simp), List.map_drop]
        simp only [jetsamref15_Guesses_K4, insP, jetsamref15_Guesses_K2, hw]
        by_cases e : S[posI gless x S]? = some x
        · rw [if_pos (hb.2 e), if_pos e]
        · rw [if_neg (fun h => e (hb.1 h)), if_neg e, List.length_map, z0, Option.bind_some, app_ok (by simp; omega), Option.bind_some, app_ok (by simp; omega), Option.bind_some, z1, Option.bind_some, app_ok (by simp; omega), Option.bind_some]
          simp
      simp only [jetsamref15_Guesses_K3, List.length_map]
      by_cases hlt : posI gless x S < S.length
      · have e1 : S[posI gless x S]? = some S[posI gless x S] := List.getElem?_eq_getElem hlt
        rw [if_pos (by simp; omega), need_ok (by simp), need_ok (by simp; omega), idx_ok (gm e1), Option.bind_some, gA_beq]
        exact ins _ (by rw [e1]; simp)
      · rw [if_neg (by simp; omega)]
        exact ins false (by rw [List.getElem?_eq_none (by omega)]; simp)
    simp only [jetsamref15_Guesses_L2, List.length_map]
    by_cases hlt : posI gless x S < S.length
    · have e1 : S[posI gless x S]? = some S[posI gless x S] := List.getElem?_eq_getElem hlt
      have hge : gless S[posI gless x S] x = false := posI_at gless x S _ e1
      rw [if_pos (by simp; omega), need_ok (by simp), need_ok (by simp; omega), idx_ok (gm e1), Option.bind_some, before_eq, hge, Option.bind_some]
      simp only [jetsamref15_Guesses_K5, Bool.false_eq_true, if_false, fin, Option.map_some]
    · rw [if_neg (by simp; omega)]
      simp only [jetsamref15_Guesses_K5, Bool.false_eq_true, if_false, fin, Option.map_some]
theorem guessesR_eq (l : List chain_Cand) (hl : l.length ≤ 900) : jetsamref15_Guesses (l.map cA) = some ((gss l).map gA) := by
  unfold jetsamref15_Guesses
  refine iter_eq (fun a => ∃ (k : Nat) (S : List chain_Guess), a = ((k : Int), S.map gA) ∧ k ≤ l.length ∧ SS gless S ∧ (∀ g, g ∈ S ↔ ∃ c, c ∈ l.take k ∧ mayB c = true ∧ gof c = g) ∧ S.length ≤ k) (fun a => l.length - a.1.toNat) _ (fun a ha => ?_) (a0 := ((0 : Int), [])) ⟨0, [], rfl, Nat.zero_le _, .nil, by simp, by simp⟩ (lt_ROUNDS (by simp only; omega))
  obtain ⟨k, S, rfl, hk, hss, hmem, hsl⟩ := ha
  simp only [jetsamref15_Guesses_L1, List.length_map]
  by_cases hlt : k < l.length
  · left
    have e1 : l[k]? = some l[k] := List.getElem?_eq_getElem hlt
    have hw : W ((k : Int) + 1) = ((k + 1 : Nat) : Int) := by rw [W_id (by omega) (by omega)]; omega
    have hm1 : ∀ c, c ∈ l.take (k + 1) ↔ c ∈ l.take k ∨ c = l[k] := fun c => by
      rw [List.take_add_one, e1, List.mem_append]
      exact ⟨fun h => h.imp id fun e => List.mem_singleton.1 e, fun h => h.imp id fun e => by rw [e]; exact List.mem_singleton_self _⟩
    rw [if_pos (by simp; omega), idx_ok (getmap e1), Option.bind_some, mayR_eq, Option.bind_some]
    cases hm : mayB l[k] with
    | false =>
      simp only [Bool.not_false, if_true, jetsamref15_Guesses_K2, hw]
      refine ⟨_, rfl, ⟨k + 1, S, rfl, by omega, hss, fun g => ?_, by omega⟩, by simp only; omega⟩
      rw [hmem]
      constructor
      · rintro ⟨c, h1, h2⟩; exact ⟨c, (hm1 c).2 (.inl h1), h2⟩
      · rintro ⟨c, h1, h2, h3⟩
        rcases (hm1 c).1 h1 with q | q
        · exact ⟨c, q, h2, h3⟩
        · subst q; rw [hm] at h2; cases h2
    | true =>
      simp only [Bool.not_true, Bool.false_eq_true, if_false, Option.bind_some, gofR_eq]
      rw [insG_eq S k (gof l[k]) (by omega) (by omega)]
      obtain ⟨h1, h2, h3⟩ := insP_spec gless gless_tot (fun a b c => lexLt_trans _ _ _) (gof l[k]) S hss
      refine ⟨_, rfl, ⟨k + 1, _, rfl, by omega, h1, fun g => ?_, by omega⟩, by simp only; omega⟩
      rw [h2, hmem]
      constructor
      · rintro (⟨c, q1, q2⟩ | rfl)
        · exact ⟨c, (hm1 c).2 (.inl q1), q2⟩
        · exact ⟨l[k], (hm1 _).2 (.inr rfl), hm, rfl⟩
      · rintro ⟨c, q1, q2, q3⟩
        rcases (hm1 c).1 q1 with q | q
        · exact .inl ⟨c, q, q2, q3⟩
        · subst q; exact .inr q3.symm
  · right
    have hkk : k = l.length := by omega
    subst hkk
    rw [List.take_length] at hmem
    rw [if_neg (by simp)]
    simp only [jetsamref15_Guesses_K1, Option.map_some]
    rw [ss_uniqueG S (gss l) hss (gss_ss l) fun g => by rw [hmem, gss_mem]]
/-- **Which guess is the best one, and its chain.** -/
theorem best_law (l : List chain_Cand) : jetsamlaw15_ChainBest l = some true := by
  unfold jetsamlaw15_ChainBest
  by_cases hg : l.length > 9
  · rw [if_pos (by simp; omega), awake15]; rfl
  have hl : l.length ≤ 9 := by omega
  rw [if_neg (by simp; omega), best_eq l (by omega), Option.bind_some, cands_eq l (by omega), Option.bind_some, guessesR_eq l (by omega), Option.bind_some]
  have hgl := gss_len l
  have hbl := bst_len l (by omega)
  have hbm : ∀ x, x ∈ (bst l).2 → mayB x = true := by
    rcases bst_spec l (by omega) with ⟨h, _⟩ | ⟨_, _, h, _⟩
    · rw [h]; simp
    · exact fun x hx => (h.2 x hx).2
  refine iter_eq (fun a => ∃ k : Nat, k ≤ (gss l).length ∧ (let s := ((gss l).take k).foldl (bestS l) (g0, []); a = (s.2.map cA, (k : Int), gA s.1 0, gA s.1 1, gA s.1 2, gA s.1 3, gA s.1 4) ∧ (s.2 = [] ∨ ∃ g, s.2 = hv g l))) (fun a => (gss l).length - a.2.1.toNat) _ (fun a ha => ?_) (a0 := ([], 0, 0, 0, 0, 0, 0)) ⟨0, Nat.zero_le _, rfl, .inl rfl⟩ (lt_ROUNDS (by simp only; omega))
  obtain ⟨k, hk, rfl, hs⟩ := ha
  simp only [jetsamlaw15_ChainBest_L1, List.length_map]
  by_cases hlt : k < (gss l).length
  · left
    have e1 : (gss l)[k]? = some (gss l)[k] := List.getElem?_eq_getElem hlt
    have hw : W ((k : Int) + 1) = ((k + 1 : Nat) : Int) := by rw [W_id (by omega) (by omega)]; omega
    have et : (gss l).take (k + 1) = (gss l).take k ++ [(gss l)[k]] := by rw [List.take_add_one, e1]; rfl
    have em : ((gss l).map gA)[k]? = some (gA (gss l)[k]) := getmap e1
    have h1 := hv_len (g := (gss l)[k]) (l := l) (by omega)
    generalize hq : ((gss l).take k).foldl (bestS l) (g0, []) = s at hs
    have hsm : (∀ x, x ∈ s.2 → mayB x = true) ∧ s.2.length ≤ 1000 := by
      rcases hs with h | ⟨g, h⟩
      · rw [h]; simp
      · rw [h]; exact ⟨hv_may (by omega), by have := hv_len (g := g) (l := l) (by omega); omega⟩
    rw [if_pos (by simp; omega), idx_ok em, Option.bind_some, heaviestR_eq _ l hl, Option.bind_some, weightR_eq _ (hv_may (by omega)) (by omega), Option.bind_some, weightR_eq _ hsm.1 hsm.2, Option.bind_some]
    have hst : ((gss l).take (k + 1)).foldl (bestS l) (g0, []) = bestS l s (gss l)[k] := by rw [et, List.foldl_append, hq]; rfl
    by_cases hwt : wt (hv (gss l)[k] l) > wt s.2
    · rw [if_pos (by simpa using hwt), Option.bind_some]
      simp only [jetsamlaw15_ChainBest_K3, hw]
      refine ⟨_, rfl, ⟨k + 1, by omega, ?_, ?_⟩, by simp only; omega⟩
      · rw [hst]; unfold bestS; rw [if_pos hwt]
      · rw [hst]; unfold bestS; rw [if_pos hwt]; exact .inr ⟨_, rfl⟩
    · rw [if_neg (by simpa using hwt)]
      simp only [jetsamlaw15_ChainBest_K3, hw]
      refine ⟨_, rfl, ⟨k + 1, by omega, ?_, ?_⟩, by simp only; omega⟩
      · rw [hst]; unfold bestS; rw [if_neg hwt]
      · rw [hst]; unfold bestS; rw [if_neg hwt]; exact hs
  · right
    have hkk : k = (gss l).length := by omega
    subst hkk
    rw [List.take_length]
    have hb : (gss l).foldl (bestS l) (g0, []) = bst l := rfl
    rw [hb, if_neg (by simp)]
    simp only [jetsamlaw15_ChainBest_K1, guessA_eq, Option.bind_some]
    rw [if_pos (by simp), cands_eq _ (by omega), Option.bind_some, alike_same _ (by omega), Option.bind_some, if_pos rfl, weightR_eq _ hbm (by omega), Option.bind_some, if_pos (by simp), awake15]
    rfl
end Go.Vg
