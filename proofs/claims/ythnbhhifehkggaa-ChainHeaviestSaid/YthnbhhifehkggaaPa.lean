/- Loops over lists; what the sorted candidates, and the guesses, are. -/
import Derived.Test.YthnbhhifehkggaaC1
set_option maxRecDepth 4000
set_option linter.all false
set_option linter.unusedVariables false
set_option linter.unusedSimpArgs false
namespace Go.Vg
open Go
/-- Over a list, one element after another, until one says that it is over. -/
def foldE {α σ A : Type} (f : σ → α → σ ⊕ A) : List α → σ → σ ⊕ A
  | [], s => .inl s
  | x :: r, s => match f s x with
    | .inl s' => foldE f r s'
    | .inr a => .inr a
def outE {σ A : Type} (fin : σ → A) : σ ⊕ A → A
  | .inl s => fin s
  | .inr a => a
theorem iter_list {α σ T A : Type} {step : T → Option (T ⊕ A)} (mk : Nat → σ → T) (f : σ → α → σ ⊕ A) (fin : σ → A) (I : Nat → σ → Prop) (l : List α) (hl : l.length ≤ 100000)
    (h : ∀ k s x, l[k]? = some x → I k s → step (mk k s) = some (match f s x with
      | .inl s' => .inl (mk (k + 1) s')
      | .inr a => .inr a) ∧ ∀ s', f s x = .inl s' → I (k + 1) s')
    (he : ∀ s, I l.length s → step (mk l.length s) = some (.inr (fin s))) {s0 : σ} (h0 : I 0 s0) : iter step (mk 0 s0) = some (outE fin (foldE f l s0)) := by
  have key : ∀ (n k : Nat) (s : σ) (m : Nat), k + n = l.length → I k s → n < m → iterN step m (mk k s) = some (outE fin (foldE f (l.drop k) s)) := by
    intro n
    induction n with
    | zero =>
      intro k s m hk hi hm
      obtain ⟨m, rfl⟩ : ∃ m', m = m' + 1 := ⟨m - 1, by omega⟩
      have hk : k = l.length := by omega
      subst hk
      rw [iterN_succ, he s hi, List.drop_of_length_le (Nat.le_refl _)]
      rfl
    | succ n ih =>
      intro k s m hk hi hm
      obtain ⟨m, rfl⟩ : ∃ m', m = m' + 1 := ⟨m - 1, by omega⟩
      have hlt : k < l.length := by omega
      obtain ⟨h1, h2⟩ := h k s l[k] (List.getElem?_eq_getElem hlt) hi
      rw [iterN_succ, h1, List.drop_eq_getElem_cons hlt]
      simp only [foldE]
      cases hf : f s l[k] with
      | inl s' => exact ih (k + 1) s' m (by omega) (h2 s' hf) (by omega)
      | inr a => rfl
  have := key l.length 0 s0 ROUNDS (by omega) h0 (lt_ROUNDS (by omega))
  unfold iter
  simpa using this
theorem foldE_inl {α σ A : Type} {f : σ → α → σ ⊕ A} {g : σ → α → σ} (h : ∀ s x, f s x = .inl (g s x)) (l : List α) (s : σ) : foldE f l s = .inl (l.foldl g s) := by
  induction l generalizing s with
  | nil => rfl
  | cons x r ih => simp only [foldE, h, List.foldl_cons, ih]
theorem need_t {A : Type} {k : Option A} : need true k = k := rfl

/-! ### Adjacent ones that are alike -/
def dd {α : Type} [DecidableEq α] : List α → List α
  | [] => []
  | [x] => [x]
  | x :: y :: r => if x = y then dd (y :: r) else x :: dd (y :: r)
theorem dd_snoc {α : Type} [DecidableEq α] (a : List α) (y x : α) : dd (a ++ [y, x]) = if y = x then dd (a ++ [y]) else dd (a ++ [y]) ++ [x] := by
  induction a with
  | nil =>
    simp only [List.nil_append, dd]
    split
    · rename_i h; subst h; rfl
    · rfl
  | cons b a ih =>
    cases a with
    | nil =>
      simp only [List.nil_append, List.cons_append] at ih ⊢
      simp only [dd] at ih ⊢
      by_cases h1 : b = y <;> by_cases h2 : y = x <;> simp_all
    | cons c a =>
      simp only [List.cons_append, dd] at ih ⊢
      by_cases h1 : b = c
      · simp only [h1, if_true]; exact ih
      · simp only [h1, if_false, ih]; split <;> rfl
theorem dd_mem {α : Type} [DecidableEq α] (l : List α) (x : α) : x ∈ dd l ↔ x ∈ l := by
  induction l with
  | nil => simp [dd]
  | cons a l ih =>
    cases l with
    | nil => simp [dd]
    | cons b l =>
      simp only [dd]
      split
      · rename_i h; subst h; rw [ih]; simp
      · rw [List.mem_cons, ih]; simp
theorem dd_len {α : Type} [DecidableEq α] (l : List α) : (dd l).length ≤ l.length := by
  induction l with
  | nil => simp [dd]
  | cons a l ih =>
    cases l with
    | nil => simp [dd]
    | cons b l =>
      simp only [dd]
      split
      · simp only [List.length_cons] at ih ⊢; omega
      · simp only [List.length_cons] at ih ⊢; omega
/-- In order, and each once. -/
abbrev SS {α : Type} (lt : α → α → Bool) (l : List α) : Prop := l.Pairwise fun a b => lt a b = true
theorem dd_ss {α : Type} [DecidableEq α] (lt : α → α → Bool) (ht : ∀ a b, lt b a = false → a ≠ b → lt a b = true) (htr : ∀ a b c, lt a b = true → lt b c = true → lt a c = true) (l : List α) (h : Ord lt l) : SS lt (dd l) := by
  induction l with
  | nil => exact .nil
  | cons a l ih =>
    cases l with
    | nil => simp [dd]
    | cons b l =>
      have h' := List.pairwise_cons.1 h
      simp only [dd]
      split
      · exact ih h'.2
      · rename_i hne
        refine List.pairwise_cons.2 ⟨fun z hz => ?_, ih h'.2⟩
        rw [dd_mem] at hz
        have hab := ht a b (h'.1 b (by simp)) hne
        rcases List.mem_cons.1 hz with rfl | hz'
        · exact hab
        · by_cases e : b = z
          · subst e; exact hab
          · exact htr _ _ _ hab (ht b z ((List.pairwise_cons.1 h'.2).1 z hz') e)
theorem ss_unique {α : Type} (lt : α → α → Bool) (hi : ∀ a, lt a a = false) (hab : ∀ a b, lt a b = true → lt b a = false) : ∀ (a b : List α), SS lt a → SS lt b → (∀ x, x ∈ a ↔ x ∈ b) → a = b
  | [], [], _, _, _ => rfl
  | [], y :: b, _, _, h => absurd ((h y).2 (by simp)) (by simp)
  | x :: a, [], _, _, h => absurd ((h x).1 (by simp)) (by simp)
  | x :: a, y :: b, ha, hb, h => by
    have ha' := List.pairwise_cons.1 ha
    have hb' := List.pairwise_cons.1 hb
    have e : x = y := by
      rcases List.mem_cons.1 ((h x).1 (by simp)) with e | e
      · exact e
      · rcases List.mem_cons.1 ((h y).2 (by simp)) with e' | e'
        · exact e'.symm
        · have := hab _ _ (ha'.1 y e'); rw [hb'.1 x e] at this; cases this
    subst e
    rw [ss_unique lt hi hab a b ha'.2 hb'.2 fun z => ?_]
    have hz := h z
    simp only [List.mem_cons] at hz
    constructor
    · intro hm
      rcases hz.1 (.inr hm) with e | e
      · subst e; have := ha'.1 z hm; rw [hi] at this; cases this
      · exact e
    · intro hm
      rcases hz.2 (.inr hm) with e | e
      · subst e; have := hb'.1 z hm; rw [hi] at this; cases this
      · exact e

instance : DecidableEq chain_Cand := fun a b => if h : ckey a = ckey b then .isTrue (ckey_inj h) else .isFalse fun e => h (by rw [e])
instance : DecidableEq chain_Guess := fun a b => if h : gkey a = gkey b then .isTrue (gkey_inj h) else .isFalse fun e => h (by rw [e])
theorem candEq (p q : chain_Cand) : ((p.Params.Rate == q.Params.Rate) && ((p.Params.Channels == q.Params.Channels) && ((p.Params.Depth == q.Params.Depth) && ((p.Offset == q.Offset) && ((p.Size == q.Size) && ((p.Number == q.Number) && ((p.Block == q.Block) && (p.Variable == q.Variable)))))))) = decide (p = q) := by
  obtain ⟨⟨a, b, c⟩, d, e, f, g, i⟩ := p
  obtain ⟨⟨a', b', c'⟩, d', e', f', g', i'⟩ := q
  rw [Bool.eq_iff_iff]
  simp only [Bool.and_eq_true, beq_iff_eq, decide_eq_true_eq, chain_Cand.mk.injEq, api_Params.mk.injEq]
  constructor
  · rintro ⟨h1, h2, h3, h4, h5, h6, h7, h8⟩; exact ⟨⟨h1, h2, h3⟩, h4, h5, h6, h7, h8⟩
  · rintro ⟨⟨h1, h2, h3⟩, h4, h5, h6, h7, h8⟩; exact ⟨h1, h2, h3, h4, h5, h6, h7, h8⟩
theorem guessEq (p q : chain_Guess) : ((p.Params.Rate == q.Params.Rate) && ((p.Params.Channels == q.Params.Channels) && ((p.Params.Depth == q.Params.Depth) && ((p.Variable == q.Variable) && (p.Block == q.Block))))) = decide (p = q) := by
  obtain ⟨⟨a, b, c⟩, d, e⟩ := p
  obtain ⟨⟨a', b', c'⟩, d', e'⟩ := q
  rw [Bool.eq_iff_iff]
  simp only [Bool.and_eq_true, beq_iff_eq, decide_eq_true_eq, chain_Guess.mk.injEq, api_Params.mk.injEq]
  constructor
  · rintro ⟨h1, h2, h3, h4, h5⟩; exact ⟨⟨h1, h2, h3⟩, h4, h5⟩
  · rintro ⟨⟨h1, h2, h3⟩, h4, h5⟩; exact ⟨h1, h2, h3, h4, h5⟩
end Go.Vg
