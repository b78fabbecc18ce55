/- The laws on candidates: which infos are trusted. -/
import Derived.Test.YtpoljomhfcmdoaaQ5
set_option maxRecDepth 4000
set_option linter.all false
set_option linter.unusedVariables false
set_option linter.unusedSimpArgs false
namespace Go.Vg
open Go

theorem within_eq (a b c : Int) : info_within a b c = some (decide (b ≤ a) && decide (a ≤ c)) := by
  simp only [info_within]
  congr 1
  by_cases h : b ≤ a <;> simp [h]
theorem ifb {b : Bool} {x y : Option Int} {Q : Int → Prop} (hx : ∃ e, x = some e ∧ Q e) (hy : b = false → ∃ e, y = some e ∧ Q e) : ∃ e, (if b = true then x else y) = some e ∧ Q e := by
  cases b with
  | true => rw [if_pos rfl]; exact hx
  | false => rw [if_neg (by simp)]; exact hy rfl
theorem check_K3 (i : info_Info) (j1 j2 j3 : Bool) : ∃ e, info_Check_K3 i j1 j2 j3 = some e ∧ (e = 0 ∨ e = 10) ∧ (e = 0 → j3 = true ∧ 0 ≤ i.Total) := by
  simp only [info_Check_K3, within_eq, Option.bind_some]
  cases j3 with
  | false =>
    rw [if_pos (by simp)]
    exact ⟨10, rfl, .inr rfl, fun h => by cases h⟩
  | true =>
    refine ifb ⟨10, rfl, .inr rfl, fun h => by cases h⟩ fun _ => ifb ⟨10, rfl, .inr rfl, fun h => by cases h⟩ fun h => ⟨0, rfl, .inl rfl, fun _ => ⟨rfl, ?_⟩⟩
    simp only [Bool.not_eq_false', Bool.and_eq_true, decide_eq_true_eq] at h
    exact h.1
theorem check_K2 (i : info_Info) (j1 j2 : Bool) : ∃ e, info_Check_K2 i j1 j2 = some e ∧ (e = 0 ∨ e = 10) ∧ (e = 0 → 0 ≤ i.MinFrame ∧ 0 ≤ i.MaxFrame ∧ 0 ≤ i.Total) := by
  simp only [info_Check_K2, within_eq, Option.bind_some]
  split
  · rename_i h1
    obtain ⟨e, e1, e2, e3⟩ := check_K3 i j1 j2 (decide (0 ≤ i.MaxFrame) && decide (i.MaxFrame ≤ 16777215))
    refine ⟨e, e1, e2, fun h => ?_⟩
    have := e3 h
    simp only [Bool.and_eq_true, decide_eq_true_eq] at h1 this
    exact ⟨h1.1, this.1.1, this.2⟩
  · obtain ⟨e, e1, e2, e3⟩ := check_K3 i j1 j2 false
    exact ⟨e, e1, e2, fun h => by have := (e3 h).1; cases this⟩
theorem check_K1 (i : info_Info) (j1 : Bool) : ∃ e, info_Check_K1 i j1 = some e ∧ (e = 0 ∨ e = 10) ∧ (e = 0 → 0 ≤ i.MinFrame ∧ 0 ≤ i.MaxFrame ∧ 0 ≤ i.Total) := by
  simp only [info_Check_K1, within_eq, Option.bind_some]
  split <;> exact check_K2 _ _ _
/-- What Check answers. -/
theorem check_eq (i : info_Info) : ∃ e, info_Check i = some e ∧ (e = 0 ∨ e = 10) ∧ (e = 0 → 0 ≤ i.MinFrame ∧ 0 ≤ i.MaxFrame ∧ 0 ≤ i.Total) := by
  simp only [info_Check, within_eq, Option.bind_some]
  split
  · split <;> exact check_K1 _ _
  · exact check_K1 _ _

/-- Is this candidate not as the info says? -/
def bad (i : info_Info) (g : chain_Guess) (n k : Nat) (c : chain_Cand) : Bool :=
  decide (c.Block > i.MaxBlock) || (decide (k + 1 < n) && decide (c.Block < i.MinBlock)) || (i.MinFrame != 0 && decide (c.Size < i.MinFrame)) || (i.MaxFrame != 0 && decide (c.Size > i.MaxFrame)) || (i.Total != 0 && decide ((whr g c).To > i.Total))
def anyBad (i : info_Info) (g : chain_Guess) (n : Nat) : Nat → List chain_Cand → Bool
  | _, [] => false
  | k, c :: l => bad i g n k c || anyBad i g n (k + 1) l
theorem anyBad_take (i : info_Info) (g : chain_Guess) (n : Nat) : ∀ (l : List chain_Cand) (s k : Nat) (c : chain_Cand), l[k]? = some c → anyBad i g n s (l.take (k + 1)) = (anyBad i g n s (l.take k) || bad i g n (s + k) c)
  | [], _, _, _, h => by simp at h
  | d :: l, s, 0, c, h => by simp at h; subst h; simp [anyBad]
  | d :: l, s, k + 1, c, h => by
    have := anyBad_take i g n l (s + 1) k c (by simpa using h)
    simp only [List.take_succ_cons, anyBad, this, Bool.or_assoc, show s + 1 + k = s + (k + 1) by omega]
def mostTo (g : chain_Guess) (l : List chain_Cand) : Int := l.foldl (fun m c => max m (whr g c).To) 0
theorem mostTo_take (g : chain_Guess) {l : List chain_Cand} {k : Nat} {c : chain_Cand} (h : l[k]? = some c) : mostTo g (l.take (k + 1)) = max (mostTo g (l.take k)) (whr g c).To := by
  simp [mostTo, List.take_add_one, h]

section
variable {i : info_Info} {g : chain_Guess} {l : List chain_Cand} (hg0 : 0 ≤ g.Block) (hg : g.Block ≤ 1048576) (hl : l.length ≤ 40) (hc : ∀ c, c ∈ l → fewC c)
include hg0 hg hl hc

theorem trust_K2 (hi : 0 ≤ i.MinFrame) {k : Nat} (hk : k < l.length) (c : chain_Cand) (j5 : Bool) (hj : j5 = (decide (c.Block > i.MaxBlock) || (i.MaxFrame != 0 && decide (c.Size > i.MaxFrame)) || (i.Total != 0 && decide ((whr g c).To > i.Total)))) :
    infer_Trust_K2 i l (k : Int) c j5 = if bad i g l.length k c = true then some (.inr 22) else some (.inl ((k + 1 : Nat) : Int)) := by
  simp only [infer_Trust_K2]
  rw [W_id (x := (k : Int) + 1) (by omega) (by omega), W_id (x := (l.length : Int) - 1) (by omega) (by omega)]
  have e : (if (if (if (decide ((k : Int) < (l.length : Int) - 1)) = true then (decide (c.Block < i.MinBlock)) else false) = true then true else (if (decide (i.MinFrame > 0)) = true then (decide (c.Size < i.MinFrame)) else false)) = true then true else j5) = bad i g l.length k c := by
    have h1 : decide ((k : Int) < (l.length : Int) - 1) = decide (k + 1 < l.length) := by rw [decide_eq_decide]; omega
    have h2 : decide (i.MinFrame > 0) = (i.MinFrame != 0) := by
      rw [Bool.eq_iff_iff]; simp only [decide_eq_true_eq, bne_iff_ne]; omega
    rw [h1, h2, hj]
    unfold bad
    generalize decide (c.Block > i.MaxBlock) = b1
    generalize decide (k + 1 < l.length) = b2
    generalize decide (c.Block < i.MinBlock) = b3
    generalize (i.MinFrame != 0) = b4
    generalize decide (c.Size < i.MinFrame) = b5
    generalize (i.MaxFrame != 0 && decide (c.Size > i.MaxFrame)) = b6
    generalize (i.Total != 0 && decide ((whr g c).To > i.Total)) = b7
    cases b1 <;> cases b2 <;> cases b3 <;> cases b4 <;> cases b5 <;> cases b6 <;> cases b7 <;> rfl
  rw [e]
  rfl
theorem trust_loop (h1 : 0 ≤ i.MinFrame) (h2 : 0 ≤ i.MaxFrame) (h3 : 0 ≤ i.Total) : iter (infer_Trust_L1 i g l) 0 = some (if anyBad i g l.length 0 l = true then 22 else 0) := by
  refine iter_eq (fun a : Int => ∃ k : Nat, a = k ∧ k ≤ l.length ∧ anyBad i g l.length 0 (l.take k) = false) (fun a => (l.length - a).toNat) _ (fun a ha => ?_) ⟨0, rfl, by omega, rfl⟩ (lt_ROUNDS (by omega))
  obtain ⟨k, rfl, hk, hn⟩ := ha
  simp only [infer_Trust_L1]
  by_cases h : k < l.length
  · have e1 : l[k]? = some l[k] := List.getElem?_eq_getElem h
    have ht := anyBad_take i g l.length l 0 k _ e1
    rw [hn, Bool.false_or, Nat.zero_add] at ht
    have hbad : bad i g l.length k l[k] = true → anyBad i g l.length 0 l = true := fun hb => by
      have : ∀ (m : List chain_Cand) (s q : Nat), anyBad i g l.length s (m.take q) = true → anyBad i g l.length s m = true := fun m => by
        induction m with
        | nil => intro s q h; simpa using h
        | cons d m ih =>
          intro s q h
          cases q with
          | zero => simp [anyBad] at h
          | succ q =>
            simp only [List.take_succ_cons, anyBad, Bool.or_eq_true] at h ⊢
            exact h.imp_right (ih _ _)
      exact this l 0 (k + 1) (ht.trans hb)
    rw [if_pos (by simpa using h), idx_ok e1, Option.bind_some]
    have hw := where_eq hg0 hg (hc _ (List.getElem_mem h))
    have fin : ∀ j5 : Bool, j5 = (decide (l[k].Block > i.MaxBlock) || (i.MaxFrame != 0 && decide (l[k].Size > i.MaxFrame)) || (i.Total != 0 && decide ((whr g l[k]).To > i.Total))) →
        (∃ a' : Int, infer_Trust_K2 i l (k : Int) l[k] j5 = some (.inl a') ∧ (∃ q : Nat, a' = q ∧ q ≤ l.length ∧ anyBad i g l.length 0 (l.take q) = false) ∧ (l.length - a').toNat < (l.length - (k : Int)).toNat) ∨ infer_Trust_K2 i l (k : Int) l[k] j5 = some (.inr (if anyBad i g l.length 0 l = true then 22 else 0)) := fun j5 hj => by
      rw [trust_K2 hg0 hg hl hc h1 h _ j5 hj]
      cases hb : bad i g l.length k l[k] with
      | true => right; rw [if_pos rfl, if_pos (hbad hb)]
      | false => left; rw [if_neg (by simp)]; exact ⟨_, rfl, ⟨k + 1, rfl, by omega, by rw [ht, hb]⟩, by omega⟩
    have m1 : decide (i.MaxFrame > 0) = (i.MaxFrame != 0) := by
      rw [Bool.eq_iff_iff]; simp only [decide_eq_true_eq, bne_iff_ne]; omega
    have m2 : decide (i.Total > 0) = (i.Total != 0) := by
      rw [Bool.eq_iff_iff]; simp only [decide_eq_true_eq, bne_iff_ne]; omega
    rw [m1, m2]
    by_cases c1 : (if (decide (l[k].Block > i.MaxBlock)) = true then true else (if (i.MaxFrame != 0) = true then (decide (l[k].Size > i.MaxFrame)) else false)) = true
    · rw [if_pos c1]
      refine fin _ ?_
      generalize decide (l[k].Block > i.MaxBlock) = b1 at *
      generalize (i.MaxFrame != 0) = b2 at *
      generalize decide (l[k].Size > i.MaxFrame) = b3 at *
      cases b1 <;> cases b2 <;> cases b3 <;> simp_all
    · rw [if_neg c1]
      have c2 : (decide (l[k].Block > i.MaxBlock) || (i.MaxFrame != 0 && decide (l[k].Size > i.MaxFrame))) = false := by
        generalize decide (l[k].Block > i.MaxBlock) = b1 at *
        generalize (i.MaxFrame != 0) = b2 at *
        generalize decide (l[k].Size > i.MaxFrame) = b3 at *
        cases b1 <;> cases b2 <;> cases b3 <;> simp_all
      rw [c2] at fin
      cases c3 : (i.Total != 0) with
      | true =>
        rw [if_pos rfl, hw, Option.bind_some]
        refine fin _ ?_
        rw [c3]; rfl
      | false =>
        rw [if_neg (by simp)]
        refine fin _ ?_
        rw [c3]; rfl
  · right
    rw [if_neg (by simpa using h)]
    have : k = l.length := by omega
    subst this
    rw [List.take_length] at hn
    rw [hn]
    rfl
def samePar (i : info_Info) (g : chain_Guess) : Bool := (i.Params.Rate == g.Params.Rate) && ((i.Params.Channels == g.Params.Channels) && (i.Params.Depth == g.Params.Depth))
theorem trust_eq {e : Int} (he : info_Check i = some e) (he1 : e = 0 → 0 ≤ i.MinFrame ∧ 0 ≤ i.MaxFrame ∧ 0 ≤ i.Total) :
    infer_Trust i g l = some (if l.length = 0 then 20 else if e ≠ 0 then e else if samePar i g = false then 22 else if anyBad i g l.length 0 l = true then 22 else 0) := by
  unfold infer_Trust
  by_cases h0 : l.length = 0
  · rw [if_pos (by simpa using h0), if_pos h0]
  rw [if_neg (by simpa using h0), if_neg h0, he, Option.bind_some]
  by_cases h1 : e = 0
  · subst h1
    obtain ⟨h2, h3, h4⟩ := he1 rfl
    rw [if_neg (by simp), if_neg (show ¬ (0 : Int) ≠ 0 by simp), trust_loop hg0 hg hl hc h2 h3 h4]
    show (if (!(samePar i g)) = true then _ else _) = _
    cases samePar i g with
    | false => rfl
    | true => rfl
  · rw [if_pos (by simpa using h1), if_pos h1]
theorem total_loop : iter (infer_Total_L1 g l) (0, 0) = some (mostTo g l) := by
  refine iter_eq (fun a : Int × Int => ∃ k : Nat, a.2 = k ∧ k ≤ l.length ∧ a.1 = mostTo g (l.take k)) (fun a => (l.length - a.2).toNat) _ (fun a ha => ?_) ⟨0, rfl, by omega, rfl⟩ (lt_ROUNDS (by simp only; omega))
  obtain ⟨m, k'⟩ := a
  obtain ⟨k, rfl, hk, rfl⟩ := ha
  simp only [infer_Total_L1]
  by_cases h : k < l.length
  · left
    have e1 : l[k]? = some l[k] := List.getElem?_eq_getElem h
    rw [if_pos (by simpa using h), idx_ok e1, Option.bind_some, where_eq hg0 hg (hc _ (List.getElem_mem h)), Option.bind_some]
    refine ⟨_, rfl, ⟨k + 1, ?_, by omega, ?_⟩, ?_⟩
    · simp only; rw [W_id (by omega) (by omega)]; omega
    · simp only; rw [mostTo_take g e1]; split <;> omega
    · simp only; rw [W_id (by omega) (by omega)]; omega
  · right
    rw [if_neg (by simpa using h)]
    have : k = l.length := by omega
    subst this
    rw [List.take_length]
    rfl
theorem total_eq {t : Int} (ht : infer_Trust i g l = some t) : infer_Total i g l = some (if t = 0 ∧ i.Total > 0 then i.Total else mostTo g l) := by
  unfold infer_Total
  rw [ht, Option.bind_some, total_loop hg0 hg hl hc]
  by_cases h : t = 0 ∧ i.Total > 0
  · rw [if_pos (by simp [h]), if_pos h]
  · rw [if_neg (by simpa using h), if_neg h]
end

theorem law_InferTrusts (i : info_Info) (g : chain_Guess) (l : List chain_Cand) (hl : l.length ≤ 9223372036854775807) : jetsamlaw17_InferTrusts i g l = some true := by
  unfold jetsamlaw17_InferTrusts
  obtain ⟨b, b1, b2⟩ := few_eq l hl
  rw [b1, Option.bind_some]
  simp only [awake17, Option.bind_some]
  by_cases hg : b = true ∧ 0 ≤ g.Block ∧ g.Block ≤ 1048576
  case neg =>
    rw [if_pos]
    cases b
    · simp
    · simp at hg ⊢; omega
  obtain ⟨rfl, hg0, hg⟩ := hg
  rw [if_neg (by simp; omega)]
  obtain ⟨hl, hc⟩ := b2 rfl
  refine iter_eq (fun a : Int × Int × Int => ∃ k : Nat, a.2.2 = k ∧ k ≤ l.length ∧ a.1 = (if anyBad i g l.length 0 (l.take k) = true then 22 else 0) ∧ a.2.1 = mostTo g (l.take k)) (fun a => (l.length - a.2.2).toNat) _ (fun a ha => ?_) ⟨0, rfl, by omega, rfl, rfl⟩ (lt_ROUNDS (by simp only; omega))
  obtain ⟨w, m, k'⟩ := a
  obtain ⟨k, rfl, hk, rfl, rfl⟩ := ha
  simp only [jetsamlaw17_InferTrusts_L1]
  by_cases h : k < l.length
  · left
    have e1 : l[k]? = some l[k] := List.getElem?_eq_getElem h
    have ht := anyBad_take i g l.length l 0 k _ e1
    rw [Nat.zero_add] at ht
    rw [if_pos (by simpa using h), idx_ok e1, Option.bind_some, where_eq hg0 hg (hc _ (List.getElem_mem h)), Option.bind_some, W_id (x := (k : Int) + 1) (by omega) (by omega)]
    have hm : (if (whr g l[k]).To > mostTo g (l.take k) then (whr g l[k]).To else mostTo g (l.take k)) = mostTo g (l.take (k + 1)) := by rw [mostTo_take g e1]; split <;> omega
    have e : (if (if (if (if (decide (l[k].Block > i.MaxBlock)) = true then true else (if (decide ((k : Int) + 1 < (l.length : Int))) = true then (decide (l[k].Block < i.MinBlock)) else false)) = true then true else (if (i.MinFrame != 0) = true then (decide (l[k].Size < i.MinFrame)) else false)) = true then true else (if (i.MaxFrame != 0) = true then (decide (l[k].Size > i.MaxFrame)) else false)) = true then true else (if (i.Total != 0) = true then (decide ((whr g l[k]).To > i.Total)) else false)) = bad i g l.length k l[k] := by
      have h1 : decide ((k : Int) + 1 < (l.length : Int)) = decide (k + 1 < l.length) := by rw [decide_eq_decide]; omega
      rw [h1]
      unfold bad
      generalize decide (l[k].Block > i.MaxBlock) = c1
      generalize decide (k + 1 < l.length) = c2
      generalize decide (l[k].Block < i.MinBlock) = c3
      generalize (i.MinFrame != 0) = c4
      generalize decide (l[k].Size < i.MinFrame) = c5
      generalize (i.MaxFrame != 0) = c6
      generalize decide (l[k].Size > i.MaxFrame) = c7
      generalize (i.Total != 0) = c8
      generalize decide ((whr g l[k]).To > i.Total) = c9
      cases c1 <;> cases c2 <;> cases c3 <;> cases c4 <;> cases c5 <;> cases c6 <;> cases c7 <;> cases c8 <;> cases c9 <;> rfl
    rw [e, hm]
    simp only [jetsamlaw17_InferTrusts_K6]
    cases hb : bad i g l.length k l[k] with
    | true =>
      rw [if_pos rfl]
      refine ⟨_, rfl, ⟨k + 1, ?_, by omega, ?_, rfl⟩, ?_⟩
      · simp only; rw [W_id (by omega) (by omega)]; omega
      · simp only; rw [ht, hb, Bool.or_true, if_pos rfl]
      · simp only; rw [W_id (by omega) (by omega)]; omega
    | false =>
      rw [if_neg (by simp)]
      refine ⟨_, rfl, ⟨k + 1, ?_, by omega, ?_, rfl⟩, ?_⟩
      · simp only; rw [W_id (by omega) (by omega)]; omega
      · simp only; rw [ht, hb, Bool.or_false]
      · simp only; rw [W_id (by omega) (by omega)]; omega
  · right
    rw [if_neg (by simpa using h)]
    have : k = l.length := by omega
    subst this
    rw [List.take_length]
    obtain ⟨e, he, he0, he1⟩ := check_eq i
    have ht := trust_eq hg0 hg hl hc he he1
    have htot := total_eq hg0 hg hl hc ht
    have K5 : ∀ (w t : Int), infer_Trust i g l = some w → infer_Total i g l = some t → jetsamlaw17_InferTrusts_K5 i g l w t = some true := fun w t h1 h2 => by
      simp only [jetsamlaw17_InferTrusts_K5]
      rw [h1, Option.bind_some, if_pos (by simp), h2, Option.bind_some, if_pos (by simp), awake17]; rfl
    have K4 : ∀ (w : Int) (q : Int), infer_Trust i g l = some w → jetsamlaw17_InferTrusts_K4 i g l (q, mostTo g l) w = some true := fun w q h1 => by
      have h2 := total_eq hg0 hg hl hc h1
      simp only [jetsamlaw17_InferTrusts_K4]
      by_cases h : w = 0 ∧ i.Total > 0
      · rw [if_pos h] at h2
        rw [if_pos (by simp [h])]; exact K5 _ _ h1 h2
      · rw [if_neg h] at h2
        rw [if_neg (by simpa using h)]; exact K5 _ _ h1 h2
    have hsp : (!((i.Params.Rate == g.Params.Rate) && ((i.Params.Channels == g.Params.Channels) && (i.Params.Depth == g.Params.Depth)))) = !(samePar i g) := rfl
    simp only [jetsamlaw17_InferTrusts_K1, jetsamlaw17_InferTrusts_K2, jetsamlaw17_InferTrusts_K3, he, Option.bind_some, hsp]
    by_cases h0 : l.length = 0
    · have z : ((l.length : Int) == 0) = true := by simpa using h0
      rw [if_pos h0] at ht
      simp only [z, if_true]
      have := K4 20 (if anyBad i g l.length 0 l = true then 22 else 0) ht
      simp only [this, Option.map_some, ite_self]
    · have z : ((l.length : Int) == 0) = false := by simpa using h0
      rw [if_neg h0] at ht
      simp only [z, Bool.false_eq_true, if_false]
      by_cases h1 : e = 0
      · have z : (e != 0) = false := by simpa using h1
        rw [if_neg (by simpa using h1)] at ht
        simp only [z, Bool.false_eq_true, if_false]
        cases hs : samePar i g with
        | false =>
          rw [hs, if_pos rfl] at ht
          rw [if_pos (by simp), K4 _ _ ht]; rfl
        | true =>
          rw [hs, if_neg (by simp)] at ht
          rw [if_neg (by simp), K4 _ _ ht]; rfl
      · have z : (e != 0) = true := by simpa using h1
        rw [if_pos (by simpa using h1)] at ht
        have e10 : e = 10 := he0.resolve_left h1
        subst e10
        simp only [z, if_true]
        have := K4 10 (if anyBad i g l.length 0 l = true then 22 else 0) ht
        simp only [this, Option.map_some, ite_self]
end Go.Vg
