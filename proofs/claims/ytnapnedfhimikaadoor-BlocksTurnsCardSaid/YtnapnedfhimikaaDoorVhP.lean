/- Reckoning with answers: rounds, and numbers of 64 bits. -/
import Derived.Test.YtnapnedfhimikaaDoorVhA
set_option maxRecDepth 4000
set_option linter.all false
set_option linter.unusedVariables false
set_option linter.unusedSimpArgs false
namespace Go.Vg
open Go

section
variable {α A : Type} {step : α → Option (α ⊕ A)}
/-- **A loop's answer**: what holds at each head, what grows less, what holds at the end. -/
theorem iterN_of (I : α → Prop) (m : α → Nat) (Q : A → Prop) (h : ∀ a, I a → (∃ a', step a = some (.inl a') ∧ I a' ∧ m a' < m a) ∨ ∃ r, step a = some (.inr r) ∧ Q r) :
    ∀ (n : Nat) (a : α), I a → m a < n → ∃ r, iterN step n a = some r ∧ Q r
  | 0, a, _, hn => by omega
  | n + 1, a, ha, hn => by
    rw [iterN_succ]
    rcases h a ha with ⟨a', h1, h2, h3⟩ | ⟨r, h1, h2⟩
    · rw [h1]; exact iterN_of I m Q h n a' h2 (by omega)
    · rw [h1]; exact ⟨r, rfl, h2⟩
theorem iter_of (I : α → Prop) (m : α → Nat) (Q : A → Prop) (h : ∀ a, I a → (∃ a', step a = some (.inl a') ∧ I a' ∧ m a' < m a) ∨ ∃ r, step a = some (.inr r) ∧ Q r) {a0 : α} (h0 : I a0) (hm : m a0 < ROUNDS) :
    ∃ r, iter step a0 = some r ∧ Q r := iterN_of I m Q h ROUNDS a0 h0 hm
theorem iter_eq (I : α → Prop) (m : α → Nat) (r : A) (h : ∀ a, I a → (∃ a', step a = some (.inl a') ∧ I a' ∧ m a' < m a) ∨ step a = some (.inr r)) {a0 : α} (h0 : I a0) (hm : m a0 < ROUNDS) : iter step a0 = some r := by
  obtain ⟨r', h1, h2⟩ := iter_of I m (· = r) (fun a ha => (h a ha).imp_right fun e => ⟨r, e, rfl⟩) h0 hm
  rw [h1, h2]
end
theorem W_id {x : Int} (h1 : -9223372036854775808 ≤ x) (h2 : x ≤ 9223372036854775807) : W x = x := wrap64 h1 h2
theorem idx_ok {α : Type} {l : List α} {i : Nat} {x : α} (h : l[i]? = some x) : idx l (i : Int) = some x := by
  unfold idx; rw [if_pos (by omega)]; simpa using h
theorem app_ok {α : Type} {b : Nat} {l xs : List α} (h : (l.length + xs.length) * b ≤ 140737488355328) : app b l xs = some (l ++ xs) := if_pos h
theorem mks_ok {α : Type} {b n : Nat} {x : α} (h : n * b ≤ 140737488355328) (h' : n ≤ LIM) : mks b (n : Int) x = some (List.replicate n x) := by
  unfold mks; rw [if_pos ⟨by omega, by simpa using h, by simpa using h'⟩]; simp
theorem sub_ok {α : Type} {l : List α} {i j : Nat} (h : i ≤ j) (h' : j ≤ l.length) : sub l (i : Int) (j : Int) = some ((l.drop i).take (j - i)) := by
  unfold sub; rw [if_pos ⟨by omega, by omega, by omega⟩]; simp
theorem need_ok {A : Type} {c : Bool} {k : Option A} (h : c = true) : need c k = k := if_pos h
theorem lt_ROUNDS {n : Nat} (h : n ≤ 1000000000000000000000) : n < ROUNDS := by unfold ROUNDS; omega
end Go.Vg
