/- The heaviest chain: what Heaviest answers. -/
import Derived.Test.YthnbhhifehkggaaPc
set_option maxRecDepth 4000
set_option linter.all false
set_option linter.unusedVariables false
set_option linter.unusedSimpArgs false
namespace Go.Vg
open Go
def wt : List chain_Cand → Int
  | [] => 0
  | x :: r => x.Size + wt r
def lexL : List chain_Cand → List chain_Cand → Bool
  | x :: a, y :: b => if x = y then lexL a b else cless x y
  | _, _ => false
/-- A chain is better than another one. -/
def bet (a b : List chain_Cand) : Prop := wt b < wt a ∨ wt a = wt b ∧ lexL a b = true
theorem lexL_irrefl (a : List chain_Cand) : lexL a a = false := by
  induction a with
  | nil => rfl
  | cons x a ih => simp [lexL, ih]
theorem lexL_trans : ∀ (a b c : List chain_Cand), lexL a b = true → lexL b c = true → lexL a c = true
  | [], _, _, h, _ => by simp [lexL] at h
  | _ :: _, [], _, h, _ => by simp [lexL] at h
  | _ :: _, _ :: _, [], _, h => by simp [lexL] at h
  | x :: a, y :: b, z :: c, h1, h2 => by
    simp only [lexL] at h1 h2 ⊢
    by_cases e1 : x = y
    · subst e1
      simp only [if_true] at h1
      by_cases e2 : x = z
      · subst e2
        simp only [if_true] at h2 ⊢
        exact lexL_trans a b c h1 h2
      · simp only [e2, if_false] at h2 ⊢
        exact h2
    · simp only [e1, if_false] at h1
      by_cases e2 : y = z
      · subst e2
        simp only [e1, if_false]
        exact h1
      · simp only [e2, if_false] at h2
        have h3 := lexLt_trans _ _ _ h1 h2
        have e3 : x ≠ z := fun e => by subst e; have := lexLt_irrefl (ckey x); rw [this] at h3; cases h3
        simp only [e3, if_false]
        exact h3
theorem bet_irrefl (a : List chain_Cand) : ¬ bet a a := by
  rintro (h | ⟨_, h⟩)
  · omega
  · rw [lexL_irrefl] at h; cases h
theorem bet_trans {a b c : List chain_Cand} (h1 : bet a b) (h2 : bet b c) : bet a c := by
  rcases h1 with h1 | ⟨h1, h1'⟩ <;> rcases h2 with h2 | ⟨h2, h2'⟩
  · left; omega
  · left; omega
  · left; omega
  · right; exact ⟨by omega, lexL_trans _ _ _ h1' h2'⟩
theorem bet_cons {x : chain_Cand} {a b : List chain_Cand} (h : bet a b) : bet (x :: a) (x :: b) := by
  rcases h with h | ⟨h, h'⟩
  · left; simp only [wt]; omega
  · right; exact ⟨by simp only [wt]; omega, by simpa [lexL] using h'⟩
def IsCh (g : chain_Guess) : List chain_Cand → Prop
  | [] => False
  | [x] => fitB g x true = true
  | x :: y :: r => fitB g x false = true ∧ folB x y = true ∧ IsCh g (y :: r)
theorem fit_true {g : chain_Guess} {x : chain_Cand} (h : fitB g x false = true) : fitB g x true = true := by
  simp only [fitB, Bool.and_eq_true, Bool.or_eq_true, decide_eq_true_eq] at h ⊢
  refine ⟨h.1, ?_⟩
  rcases h.2 with h | h
  · exact .inl h
  · simp at h
theorem isCh_fit {g : chain_Guess} : ∀ {c : List chain_Cand}, IsCh g c → ∀ x, x ∈ c → fitB g x true = true
  | [x], h, y, hy => by simp at hy; subst hy; exact h
  | x :: y :: r, h, z, hz => by
    rcases List.mem_cons.1 hz with rfl | hz
    · exact fit_true h.1
    · exact isCh_fit h.2.2 z hz
/-- A chain of these. -/
def ChIn (g : chain_Guess) (L : List chain_Cand) (c : List chain_Cand) : Prop := IsCh g c ∧ ∀ x, x ∈ c → x ∈ L
def OptX (g : chain_Guess) (L : List chain_Cand) (x : chain_Cand) (c : List chain_Cand) : Prop := ChIn g L c ∧ c.head? = some x ∧ ∀ c', ChIn g L c' → c'.head? = some x → c' = c ∨ bet c c'
theorem OptX.unique {g : chain_Guess} {L : List chain_Cand} {x : chain_Cand} {c d : List chain_Cand} (h : OptX g L x c) (k : OptX g L x d) : c = d := by
  rcases h.2.2 d k.1 k.2.1 with e | e
  · exact e.symm
  · rcases k.2.2 c h.1 h.2.1 with e' | e'
    · exact e'
    · exact absurd (bet_trans e e') (bet_irrefl _)

section
variable {g : chain_Guess} {L : List chain_Cand}
def GoodS (g : chain_Guess) (L : List chain_Cand) (j : Nat) (st : chain_step) : Prop :=
  ∃ x c, L[j]? = some x ∧ OptX g L x c ∧ st.m_weight = wt c ∧ 0 < wt c ∧ wt c ≤ ((L.length - j : Nat) : Int) * M40 ∧ ((st.m_next = -1 ∧ c = [x]) ∨ ∃ (k : Nat) (y : chain_Cand) (c' : List chain_Cand), j < k ∧ L[k]? = some y ∧ st.m_next = k ∧ c = x :: c' ∧ OptX g L y c')
def Known (g : chain_Guess) (L : List chain_Cand) (m : Nat) (kn : List (Int × chain_step)) : Prop := kn.length ≤ L.length - m ∧ ∀ j, m ≤ j → j < L.length → ∃ st, mfind kn j = some st ∧ GoodS g L j st
theorem mfind_mput {α : Type} (l : List (Int × α)) (i j : Int) (p : α) : mfind (mput l i p) j = if i = j then some p else mfind l j := by
  induction l with
  | nil => simp only [mput, mfind]
  | cons a r ih =>
    obtain ⟨k, q⟩ := a
    simp only [mput]
    by_cases h : k = i
    · subst h
      simp only [if_true, mfind]
      split <;> rfl
    · simp only [h, if_false, mfind, ih]
      by_cases h2 : k = j
      · subst h2
        have : ¬ i = k := fun e => h e.symm
        simp [this]
      · simp [h2]
theorem mput_length {α : Type} (l : List (Int × α)) (i : Int) (p : α) : (mput l i p).length ≤ l.length + 1 := by
  induction l with
  | nil => simp [mput]
  | cons a r ih =>
    obtain ⟨k, q⟩ := a
    simp only [mput]
    split <;> simp <;> omega
theorem head_of {c : List chain_Cand} {x : chain_Cand} (h : c.head? = some x) : ∃ r, c = x :: r := by
  cases c with
  | nil => simp at h
  | cons a r => simp at h; exact ⟨r, by rw [h]⟩
theorem ss_lt {l : List chain_Cand} (h : SS cless l) {i j : Nat} {x y : chain_Cand} (hx : l[i]? = some x) (hy : l[j]? = some y) (hlt : cless x y = true) : i < j := by
  obtain ⟨hi, rfl⟩ := List.getElem?_eq_some_iff.1 hx
  obtain ⟨hj, rfl⟩ := List.getElem?_eq_some_iff.1 hy
  rcases Nat.lt_trichotomy i j with h1 | h1 | h1
  · exact h1
  · subst h1
    have e := lexLt_irrefl (ckey l[i])
    rw [show cless l[i] l[i] = false from e] at hlt; cases hlt
  · have := List.pairwise_iff_getElem.1 h j i hj hi h1
    have e : cless l[i] l[j] = false := lexLt_asym _ _ this
    rw [e] at hlt; cases hlt

theorem K4_eq (i fw fn : Int) (kn : List (Int × chain_step)) (w n : Int) (hk : kn.length < LIM) :
    chain_Heaviest_K4 (i, fw, fn, kn) (w, n) = some (.inl (W (i - 1), if w ≥ fw then w else fw, if w ≥ fw then i else fn, mput kn i ⟨w, n⟩)) := by
  simp only [chain_Heaviest_K4, chain_Heaviest_K3, mputq, if_pos hk, Option.bind_some, decide_eq_true_eq]
  split <;> rfl
theorem c2c1_eq {x y : chain_Cand} {i k : Nat} {kn : List (Int × chain_step)} {t s : chain_step} (hx : L[i]? = some x) (hy : L[k]? = some y) (ht : mfind kn k = some t) (hm : mayB x = true) (hw : W (x.Size + t.m_weight) = x.Size + t.m_weight) :
    chain_Heaviest_c2_c1 k i s kn L = some (if folB x y = true ∧ x.Size + t.m_weight > s.m_weight then (x.Size + t.m_weight, (k : Int), x.Size + t.m_weight, (k : Int)) else (s.m_weight, s.m_next, s.m_weight, s.m_next)) := by
  have hi := (List.getElem?_eq_some_iff.1 hx).1
  have hk := (List.getElem?_eq_some_iff.1 hy).1
  simp only [chain_Heaviest_c2_c1, look1, ht, Option.getD_some, Option.bind_some]
  rw [need_ok (by simp), need_ok (by simp; omega), need_ok (by simp), need_ok (by simp; omega), idx_ok hx, Option.bind_some, idx_ok hy, Option.bind_some, follows_eq x y hm, Option.bind_some]
  by_cases h1 : folB x y = true
  · rw [if_pos h1, need_ok (by simp), need_ok (by simp; omega), Option.bind_some]
    simp only [chain_Heaviest_c2_c1_K2, chain_Heaviest_c2_c1_K1, hw, h1, true_and]
    by_cases h2 : x.Size + t.m_weight > s.m_weight
    · rw [if_pos (by simpa using h2), need_ok (by simp), need_ok (by simp; omega), if_pos h2, idx_ok hx, Option.bind_some, hw]
    · rw [if_neg (by simpa using h2), if_neg h2]
  · rw [if_neg h1, if_neg (fun h => h1 h.1)]
    simp only [chain_Heaviest_c2_c1_K2, chain_Heaviest_c2_c1_K1, Bool.false_eq_true, if_false]
    try rw [need_ok (by simp), need_ok (by simp; omega)]
theorem mul_mono {a b : Nat} (h : a ≤ b) : (a : Int) * M40 ≤ (b : Int) * M40 := Int.mul_le_mul_of_nonneg_right (by omega) (by unfold M40; omega)

theorem inner_eq (hs : SS cless L) (hm : ∀ x, x ∈ L → mayB x = true) (hl : L.length ≤ 1000) {i : Nat} {x : chain_Cand} (hx : L[i]? = some x) (hfx : fitB g x false = true) {kn : List (Int × chain_step)} (hk : Known g L (i + 1) kn) (fw fn : Int) :
    ∃ w n, GoodS g L i ⟨w, n⟩ ∧ iter (chain_Heaviest_L3 L ((i : Int), fw, fn, kn)) (((i + 1 : Nat) : Int), x.Size, -1, x.Size, -1) = chain_Heaviest_K4 ((i : Int), fw, fn, kn) (w, n) := by
  have hi := (List.getElem?_eq_some_iff.1 hx).1
  have hxm : x ∈ L := List.mem_of_getElem? hx
  have hmx := mayB_iff.1 (hm x hxm)
  have hkl : kn.length < LIM := by have := hk.1; unfold LIM; omega
  have key := iter_of (step := chain_Heaviest_L3 L ((i : Int), fw, fn, kn))
    (fun a => ∃ (k : Nat) (w nx : Int) (c : List chain_Cand), a = ((k : Int), w, nx, w, nx) ∧ i + 1 ≤ k ∧ k ≤ L.length ∧ ChIn g L c ∧ c.head? = some x ∧ w = wt c ∧ 0 < wt c ∧ wt c ≤ ((L.length - i : Nat) : Int) * M40 ∧
      ((nx = -1 ∧ c = [x]) ∨ ∃ (k0 : Nat) (y0 : chain_Cand) (c0 : List chain_Cand), i < k0 ∧ k0 < k ∧ L[k0]? = some y0 ∧ nx = k0 ∧ c = x :: c0 ∧ OptX g L y0 c0) ∧
      (∀ (k' : Nat) y c', i < k' → k' < k → L[k']? = some y → folB x y = true → OptX g L y c' → x :: c' = c ∨ bet c (x :: c')) ∧ (c = [x] ∨ bet c [x]))
    (fun a => L.length - a.1.toNat)
    (fun r => ∃ w n, GoodS g L i ⟨w, n⟩ ∧ chain_Heaviest_K4 ((i : Int), fw, fn, kn) (w, n) = some r)
    (fun a ha => ?_) (a0 := (((i + 1 : Nat) : Int), x.Size, -1, x.Size, -1)) ⟨i + 1, x.Size, -1, [x], rfl, Nat.le_refl _, by omega, ⟨fit_true hfx, by simpa using hxm⟩, rfl, by simp [wt], by simp [wt]; omega, ?_, .inl ⟨rfl, rfl⟩, fun k' y c' h1 h2 => by omega, .inl rfl⟩ (lt_ROUNDS (by simp only; omega))
  · obtain ⟨r, h1, w, n, h2, h3⟩ := key
    exact ⟨w, n, h2, by rw [h1, h3]⟩
  · obtain ⟨k, w, nx, c, rfl, hk1, hk2, hc, hch, hw, hpos, hwb, hlink, hall, hone⟩ := ha
    simp only [chain_Heaviest_L3]
    by_cases hlt : k < L.length
    · left
      have hy : L[k]? = some L[k] := List.getElem?_eq_getElem hlt
      obtain ⟨t, ht, y', d, g1, g2, g3, g4, g5, _⟩ := hk.2 k hk1 hlt
      rw [hy] at g1; cases g1
      have hbd : wt d ≤ ((L.length - i - 1 : Nat) : Int) * M40 := Int.le_trans g5 (mul_mono (by omega))
      have hbd2 : x.Size + wt d ≤ ((L.length - i : Nat) : Int) * M40 := by
        have : ((L.length - i : Nat) : Int) = ((L.length - i - 1 : Nat) : Int) + 1 := by omega
        rw [this, Int.add_mul, Int.one_mul]; omega
      have hmax : ((L.length - i : Nat) : Int) * M40 ≤ (1000 : Int) * M40 := by
        have h := mul_mono (a := L.length - i) (b := 1000) (by omega)
        exact h
      have hwid : W (x.Size + t.m_weight) = x.Size + t.m_weight := by
        rw [g3]
        exact W_id (by omega) (by unfold M40 at hbd2 hmax; omega)
      have wk : W ((k : Int) + 1) = ((k + 1 : Nat) : Int) := by rw [W_id (by omega) (by omega)]; omega
      rw [if_pos (by simpa using (show (k : Int) < L.length by omega)), c2c1_eq hx hy ht (hm x hxm) hwid, Option.bind_some, wk, g3]
      obtain ⟨d', rfl⟩ := head_of g2.2.1
      by_cases hcond : folB x L[k] = true ∧ x.Size + wt (L[k] :: d') > w
      · rw [if_pos hcond]
        have hnew : ChIn g L (x :: L[k] :: d') := ⟨⟨hfx, hcond.1, g2.1.1⟩, fun z hz => by
          rcases List.mem_cons.1 hz with rfl | hz
          · exact hxm
          · exact g2.1.2 z hz⟩
        have hb : bet (x :: L[k] :: d') c := by
          left
          show wt c < x.Size + wt (L[k] :: d')
          omega
        refine ⟨_, rfl, ⟨k + 1, _, _, x :: L[k] :: d', rfl, by omega, by omega, hnew, rfl, rfl, ?_, hbd2, .inr ⟨k, L[k], L[k] :: d', by omega, by omega, hy, rfl, rfl, g2⟩, fun k' y c' h1 h2 h3 h4 h5 => ?_, ?_⟩, by simp only; omega⟩
        · show 0 < x.Size + wt (L[k] :: d'); omega
        · by_cases e : k' = k
          · subst e
            rw [hy] at h3; cases h3
            rw [h5.unique g2]; exact .inl rfl
          · right
            rcases hall k' y c' h1 (by omega) h3 h4 h5 with e' | e'
            · rw [e']; exact hb
            · exact bet_trans hb e'
        · right
          rcases hone with e | e
          · rw [← e]; exact hb
          · exact bet_trans hb e
      · rw [if_neg hcond]
        refine ⟨_, rfl, ⟨k + 1, w, nx, c, rfl, by omega, by omega, hc, hch, hw, hpos, hwb, ?_, fun k' y c' h1 h2 h3 h4 h5 => ?_, hone⟩, by simp only; omega⟩
        · rcases hlink with h | ⟨k0, y0, c0, h1, h2, h3⟩
          · exact .inl h
          · exact .inr ⟨k0, y0, c0, h1, by omega, h3⟩
        · by_cases e : k' = k
          · subst e
            rw [hy] at h3; cases h3
            have he := h5.unique g2
            subst he
            have hle : x.Size + wt (L[k'] :: d') ≤ w := by
              by_cases h : x.Size + wt (L[k'] :: d') > w
              · exact absurd ⟨h4, h⟩ hcond
              · omega
            by_cases heq : wt (x :: L[k'] :: d') = wt c
            · right; right
              refine ⟨heq.symm, ?_⟩
              rcases hlink with ⟨_, rfl⟩ | ⟨k0, y0, c0, q1, q2, q3, _, rfl, q5⟩
              · simp only [wt] at heq g4; omega
              · obtain ⟨c0', rfl⟩ := head_of q5.2.1
                have hkk : L[k0]? = some y0 := q3
                have h0 := (List.getElem?_eq_some_iff.1 q3)
                have hlt2 : cless y0 L[k'] = true := by
                  rw [← h0.2]
                  exact List.pairwise_iff_getElem.1 hs k0 k' h0.1 hlt q2
                have hne : y0 ≠ L[k'] := fun e => by
                  rw [← e] at hlt2
                  have := lexLt_irrefl (ckey y0)
                  rw [show cless y0 y0 = false from this] at hlt2; cases hlt2
                simp [lexL, hne, hlt2]
            · right; left
              have : wt (x :: L[k'] :: d') = x.Size + wt (L[k'] :: d') := rfl
              omega
          · exact hall k' y c' h1 (by omega) h3 h4 h5
    · right
      rw [if_neg (by simpa using (show ¬ (k : Int) < L.length by omega))]
      have hkn : k = L.length := by omega
      subst hkn
      rw [K4_eq _ _ _ _ _ _ hkl]
      refine ⟨_, rfl, w, nx, ⟨x, c, hx, ⟨hc, hch, fun c' hc' hh => ?_⟩, hw, hpos, hwb, ?_⟩, K4_eq _ _ _ _ _ _ hkl⟩
      · obtain ⟨r, rfl⟩ := head_of hh
        cases r with
        | nil => rcases hone with e | e; exact .inl e.symm; exact .inr e
        | cons y r =>
          obtain ⟨q1, q2, q3⟩ := hc'.1
          have hyL : y ∈ L := hc'.2 y (by simp)
          obtain ⟨k', hk'⟩ := List.mem_iff_getElem?.1 hyL
          have hik := ss_lt hs hx hk' (fol_lt (hm x hxm) q2)
          have hk'l := (List.getElem?_eq_some_iff.1 hk').1
          obtain ⟨t, ht, y', d, g1, g2, _⟩ := hk.2 k' (by omega) hk'l
          rw [hk'] at g1; cases g1
          have h6 := hall k' y d hik hk'l hk' q2 g2
          rcases g2.2.2 (y :: r) ⟨q3, fun z hz => hc'.2 z (by simp at hz ⊢; exact .inr hz)⟩ rfl with e | e
          · rw [e]; exact h6
          · right
            rcases h6 with e' | e'
            · rw [← e']; exact bet_cons e
            · exact bet_trans e' (bet_cons e)
      · rcases hlink with h | ⟨k0, y0, c0, h1, h2, h3, h4, h5, h6⟩
        · exact .inl h
        · exact .inr ⟨k0, y0, c0, h1, h3, h4, h5, h6⟩
  · simp only [wt]
    have : (1 : Int) * M40 ≤ ((L.length - i : Nat) : Int) * M40 := mul_mono (a := 1) (by omega)
    omega

theorem known_put {i : Nat} {kn : List (Int × chain_step)} (hi : i < L.length) (hk : Known g L (i + 1) kn) {st : chain_step} (h : GoodS g L i st) : Known g L i (mput kn i st) := by
  refine ⟨?_, fun j h1 h2 => ?_⟩
  · have := mput_length kn i st
    have := hk.1
    omega
  · rw [mfind_mput]
    by_cases e : (i : Int) = j
    · have : i = j := by omega
      subst this
      exact ⟨st, by simp, h⟩
    · rw [if_neg e]
      exact hk.2 j (by omega) h2
/-- The chain is told, step by step. -/
theorem tell_eq (hl : L.length ≤ 1000) {kn : List (Int × chain_step)} (hk : Known g L 0 kn) (fw : Int) {i : Nat} {x : chain_Cand} {c : List chain_Cand} (hx : L[i]? = some x) (hc : OptX g L x c) :
    iter (chain_Heaviest_L1 L (fw, (i : Int), kn)) ((i : Int), []) = some (c, fw) := by
  refine iter_eq (fun a => ∃ out rest, a.2 = out ∧ c = out ++ rest ∧ ((a.1 = -1 ∧ rest = []) ∨ ∃ (j : Nat) (y : chain_Cand), a.1 = (j : Int) ∧ L[j]? = some y ∧ OptX g L y rest ∧ out.length ≤ j)) (fun a => if a.1 < 0 then 0 else L.length - a.1.toNat) (c, fw) (fun a ha => ?_) (a0 := ((i : Int), [])) ⟨[], c, rfl, rfl, .inr ⟨i, x, rfl, hx, hc, by simp⟩⟩ (lt_ROUNDS (by split <;> omega))
  obtain ⟨i', o'⟩ := a
  obtain ⟨out, rest, e0, e1, h⟩ := ha
  simp only at e0 h
  subst e0
  simp only [chain_Heaviest_L1]
  rcases h with ⟨rfl, rfl⟩ | ⟨j, y, rfl, hy, ho, hlen⟩
  · right
    rw [if_neg (by simp)]
    simp only [chain_Heaviest_K2, Option.map_some, e1, List.append_nil]
  · left
    have hj := (List.getElem?_eq_some_iff.1 hy).1
    obtain ⟨st, h1, y', d, h2, h3, h4, h5, h6, h7⟩ := hk.2 j (Nat.zero_le _) hj
    rw [hy] at h2; cases h2
    have := h3.unique ho
    subst this
    rw [if_pos (by simp), need_ok (by simp), need_ok (by simp; omega), idx_ok hy, Option.bind_some, app_ok (by simp; omega), Option.bind_some]
    simp only [look1, h1, Option.getD_some, Option.bind_some]
    rcases h7 with ⟨g1, g2⟩ | ⟨k, z, c', g1, g2, g3, g4, g5⟩
    · refine ⟨_, rfl, ⟨o' ++ [y], [], rfl, by rw [e1, g2]; simp, .inl ⟨g1, rfl⟩⟩, ?_⟩
      simp only [g1]
      rw [if_pos (by omega), if_neg (by omega)]; omega
    · have hk' := (List.getElem?_eq_some_iff.1 g2).1
      refine ⟨_, rfl, ⟨o' ++ [y], c', rfl, by rw [e1, g4]; simp, .inr ⟨k, z, g3, g2, g5, by simp; omega⟩⟩, ?_⟩
      simp only [g3]
      rw [if_neg (by omega), if_neg (by omega)]; omega

/-- What is best of all that begin at some places. -/
def BestF (g : chain_Guess) (L : List chain_Cand) (m : Nat) (fw fn : Int) : Prop :=
  (m = L.length ∧ fw = 0 ∧ fn = -1) ∨ ∃ (j : Nat) (x : chain_Cand) (c : List chain_Cand), m ≤ j ∧ L[j]? = some x ∧ fn = j ∧ OptX g L x c ∧ fw = wt c ∧ ∀ (j' : Nat) y d, m ≤ j' → L[j']? = some y → OptX g L y d → d = c ∨ bet c d
theorem hv_loop (hs : SS cless L) (hm : ∀ x, x ∈ L → mayB x = true) (hf : ∀ x, x ∈ L → fitB g x true = true) (hl : L.length ≤ 1000) :
    ∃ c, iter (chain_Heaviest_L2 g L) (W ((L.length : Int) - 1), 0, -1, ([] : List (Int × chain_step))) = some (c, wt c) ∧ ((L = [] ∧ c = []) ∨ (ChIn g L c ∧ ∀ d, ChIn g L d → d = c ∨ bet c d)) := by
  have w0 : W ((L.length : Int) - 1) = (L.length : Int) - 1 := W_id (by omega) (by omega)
  rw [w0]
  have key := iter_of (step := chain_Heaviest_L2 g L) (fun a => ∃ (m : Nat) (fw fn : Int) (kn : List (Int × chain_step)), a = ((m : Int) - 1, fw, fn, kn) ∧ m ≤ L.length ∧ Known g L m kn ∧ BestF g L m fw fn) (fun a => (a.1 + 1).toNat)
    (fun r => ∃ c, r = (c, wt c) ∧ ((L = [] ∧ c = []) ∨ (ChIn g L c ∧ ∀ d, ChIn g L d → d = c ∨ bet c d))) (fun a ha => ?_) (a0 := ((L.length : Int) - 1, 0, -1, [])) ⟨L.length, 0, -1, [], rfl, Nat.le_refl _, ⟨by simp, fun j h1 h2 => by omega⟩, .inl ⟨rfl, rfl, rfl⟩⟩ (lt_ROUNDS (by simp only; omega))
  · obtain ⟨r, h1, c, rfl, h2⟩ := key
    exact ⟨c, h1, h2⟩
  obtain ⟨m, fw, fn, kn, rfl, hml, hk, hb⟩ := ha
  simp only [chain_Heaviest_L2]
  cases m with
  | zero =>
    right
    rw [if_neg (by simp)]
    rcases hb with ⟨h1, rfl, rfl⟩ | ⟨j, x, c, h1, h2, rfl, h4, rfl, h6⟩
    · have : L = [] := List.eq_nil_of_length_eq_zero h1.symm
      subst this
      refine ⟨([], 0), ?_, [], rfl, .inl ⟨rfl, rfl⟩⟩
      simp only [chain_Heaviest_K1]
      have : iter (chain_Heaviest_L1 [] (0, -1, kn)) (-1, []) = some ([], 0) := by
        refine iter_eq (fun a => a = (-1, [])) (fun _ => 0) _ (fun a ha => .inr ?_) rfl (lt_ROUNDS (by omega))
        subst ha
        simp [chain_Heaviest_L1, chain_Heaviest_K2]
      rw [this]; rfl
    · refine ⟨(c, wt c), ?_, c, rfl, .inr ⟨h4.1, fun d hd => ?_⟩⟩
      · simp only [chain_Heaviest_K1]
        rw [tell_eq hl hk (wt c) h2 h4]; rfl
      · cases d with
        | nil => exact absurd hd.1 (by simp [IsCh])
        | cons y r =>
          obtain ⟨j', hj'⟩ := List.mem_iff_getElem?.1 (hd.2 y (by simp))
          obtain ⟨st, g1, y', d', g2, g3, _⟩ := hk.2 j' (Nat.zero_le _) (List.getElem?_eq_some_iff.1 hj').1
          rw [hj'] at g2; cases g2
          have q := h6 j' y d' (Nat.zero_le _) hj' g3
          rcases g3.2.2 (y :: r) hd rfl with e | e
          · rw [e]; exact q
          · right
            rcases q with e' | e'
            · rw [← e']; exact e
            · exact bet_trans e' e
  | succ i =>
    left
    have hi : i < L.length := by omega
    have hx : L[i]? = some L[i] := List.getElem?_eq_getElem hi
    have e0 : ((i + 1 : Nat) : Int) - 1 = i := by omega
    have wi : W ((i : Int) - 1) = (i : Int) - 1 := W_id (by omega) (by omega)
    have w1 : W ((i : Int) + 1) = ((i + 1 : Nat) : Int) := by rw [W_id (by omega) (by omega)]; omega
    have hkl : kn.length < LIM := by have := hk.1; unfold LIM; omega
    have hxm : L[i] ∈ L := List.getElem_mem hi
    simp only [e0]
    rw [if_pos (by simp), need_ok (by simp), need_ok (by simp; omega), idx_ok hx, Option.bind_some, need_ok (by simp), need_ok (by simp; omega), Option.bind_some, fits_eq, Option.bind_some]
    obtain ⟨w, n, hg, he⟩ : ∃ w n, GoodS g L i ⟨w, n⟩ ∧ (if fitB g L[i] false = true then (chain_Heaviest_c2 (i : Int) (⟨L[i].Size, -1⟩ : chain_step) kn L).bind fun _ => iter (chain_Heaviest_L3 L ((i : Int), fw, fn, kn)) (W ((i : Int) + 1), L[i].Size, -1, L[i].Size, -1) else chain_Heaviest_K4 ((i : Int), fw, fn, kn) (L[i].Size, -1)) = chain_Heaviest_K4 ((i : Int), fw, fn, kn) (w, n) := by
      by_cases h : fitB g L[i] false = true
      · rw [if_pos h, chain_Heaviest_c2, Option.bind_some, w1]
        exact inner_eq hs hm hl hx h hk fw fn
      · rw [if_neg h]
        have hmx := mayB_iff.1 (hm _ hxm)
        refine ⟨_, _, ⟨L[i], [L[i]], hx, ⟨⟨hf _ hxm, by simpa using hxm⟩, rfl, fun c' hc' hh => ?_⟩, by simp [wt], by simp [wt]; omega, ?_, .inl ⟨rfl, rfl⟩⟩, rfl⟩
        · obtain ⟨r, rfl⟩ := head_of hh
          cases r with
          | nil => exact .inl rfl
          | cons y r => exact absurd hc'.1.1 h
        · have : (1 : Int) * M40 ≤ ((L.length - i : Nat) : Int) * M40 := mul_mono (a := 1) (by omega)
          simp only [wt]; omega
    rw [he, K4_eq _ _ _ _ _ _ hkl, wi]
    refine ⟨_, rfl, ⟨i, _, _, _, rfl, by omega, known_put hi hk hg, ?_⟩, by simp only; omega⟩
    obtain ⟨x, c, q1, q2, q3, q4, q5, _⟩ := hg
    rw [hx] at q1; cases q1
    simp only at q3
    subst q3
    have last : ∀ (j' : Nat) y d, i ≤ j' → ¬ i + 1 ≤ j' → L[j']? = some y → OptX g L y d → d = c := fun j' y d h1 h2 h3 h4 => by
      have : j' = i := by omega
      subst this
      rw [hx] at h3; cases h3
      exact h4.unique q2
    rcases hb with ⟨h1, rfl, rfl⟩ | ⟨j, x, c0, h1, h2, rfl, h4, rfl, h6⟩
    · rw [if_pos (by omega), if_pos (by omega)]
      refine .inr ⟨i, L[i], c, Nat.le_refl _, hx, rfl, q2, rfl, fun j' y d g1 g2 g3 => ?_⟩
      have := (List.getElem?_eq_some_iff.1 g2).1
      exact .inl (last j' y d g1 (by omega) g2 g3)
    · by_cases h : wt c ≥ wt c0
      · rw [if_pos h, if_pos h]
        refine .inr ⟨i, L[i], c, Nat.le_refl _, hx, rfl, q2, rfl, fun j' y d g1 g2 g3 => ?_⟩
        by_cases g4 : i + 1 ≤ j'
        · have hb : bet c c0 := by
            by_cases hw : wt c = wt c0
            · right
              refine ⟨hw, ?_⟩
              obtain ⟨r, hr⟩ := head_of q2.2.1
              obtain ⟨r0, hr0⟩ := head_of h4.2.1
              have hjl := List.getElem?_eq_some_iff.1 h2
              have hlt : cless L[i] x = true := by
                rw [← hjl.2]
                exact List.pairwise_iff_getElem.1 hs i j hi hjl.1 (by omega)
              have hne : L[i] ≠ x := fun e => by
                rw [e] at hlt
                have := lexLt_irrefl (ckey x)
                rw [show cless x x = false from this] at hlt; cases hlt
              rw [hr, hr0]
              simp [lexL, hne, hlt]
            · left; omega
          right
          rcases h6 j' y d g4 g2 g3 with e | e
          · rw [e]; exact hb
          · exact bet_trans hb e
        · exact .inl (last j' y d g1 g4 g2 g3)
      · rw [if_neg h, if_neg h]
        refine .inr ⟨j, x, c0, by omega, h2, rfl, h4, rfl, fun j' y d g1 g2 g3 => ?_⟩
        by_cases g4 : i + 1 ≤ j'
        · exact h6 j' y d g4 g2 g3
        · rw [last j' y d g1 g4 g2 g3]
          right; left; omega
end
/-- The chains of candidates. -/
def Chn (g : chain_Guess) (l : List chain_Cand) (c : List chain_Cand) : Prop := IsCh g c ∧ ∀ x, x ∈ c → x ∈ l ∧ mayB x = true
/-- **What Heaviest answers.** -/
theorem hv_eq (g : chain_Guess) (l : List chain_Cand) (hl : l.length ≤ 1000) :
    ∃ c, chain_Heaviest g l = some (c, wt c) ∧ ((c = [] ∧ ∀ d, ¬ Chn g l d) ∨ (Chn g l c ∧ ∀ d, Chn g l d → d = c ∨ bet c d)) := by
  unfold chain_Heaviest
  rw [sorted2_eq l (by omega), Option.bind_some, hdeleteFunc_eq (p := fun r => !fitB g r true) (fun r _ => hc1_eq g r) (by have := srt_len l; omega), Option.bind_some]
  have e1 : ((srt l).filter fun r => !!fitB g r true) = (srt l).filter fun r => fitB g r true := by congr 1; funext r; simp
  rw [e1]
  have hmem : ∀ x, x ∈ (srt l).filter (fun r => fitB g r true) ↔ (x ∈ l ∧ mayB x = true) ∧ fitB g x true = true := fun x => by rw [List.mem_filter, srt_mem]
  have hlen : ((srt l).filter fun r => fitB g r true).length ≤ 1000 := by
    have := List.length_filter_le (fun r => fitB g r true) (srt l)
    have := srt_len l
    omega
  have hss : SS cless ((srt l).filter fun r => fitB g r true) := (srt_ss l).filter _
  generalize (srt l).filter (fun r => fitB g r true) = L at hmem hlen hss
  have hch : ∀ d, ChIn g L d ↔ Chn g l d := fun d => by
    constructor
    · rintro ⟨h1, h2⟩; exact ⟨h1, fun x hx => ((hmem x).1 (h2 x hx)).1⟩
    · rintro ⟨h1, h2⟩; exact ⟨h1, fun x hx => (hmem x).2 ⟨h2 x hx, isCh_fit h1 x hx⟩⟩
  obtain ⟨c, h1, h2⟩ := hv_loop (g := g) hss (fun x hx => ((hmem x).1 hx).1.2) (fun x hx => ((hmem x).1 hx).2) hlen
  refine ⟨c, h1, ?_⟩
  rcases h2 with ⟨rfl, rfl⟩ | ⟨h2, h3⟩
  · left
    refine ⟨rfl, fun d hd => ?_⟩
    have := (hch d).2 hd
    cases d with
    | nil => exact hd.1
    | cons x r => exact absurd (this.2 x (by simp)) (by simp)
  · right
    exact ⟨(hch c).1 h2, fun d hd => h3 d ((hch d).2 hd)⟩
end Go.Vg
