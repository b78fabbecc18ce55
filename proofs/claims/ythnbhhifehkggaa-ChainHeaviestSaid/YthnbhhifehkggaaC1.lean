/- How candidates and guesses compare, and what is needed of it to sort. -/
import Derived.Test.YthnbhhifehkggaaF1
set_option maxRecDepth 4000
set_option linter.all false
set_option linter.unusedVariables false
set_option linter.unusedSimpArgs false
namespace Go.Vg
open Go
def fnz : List Int → Int
  | [] => 0
  | x :: r => if x ≠ 0 then x else fnz r
def cmp3 (x y : Int) : Int := if x < y then -1 else if x > y then 1 else 0
def lexLt : List Int → List Int → Bool
  | x :: a, y :: b => decide (x < y) || (x == y && lexLt a b)
  | _, _ => false
def zipC : List Int → List Int → List Int
  | x :: a, y :: b => cmp3 x y :: zipC a b
  | _, _ => []
theorem fnz_app (a b : List Int) : fnz (a ++ [fnz b]) = fnz (a ++ b) := by
  induction a with
  | nil => simp only [List.nil_append, fnz]; split <;> simp_all
  | cons x a ih => simp only [List.cons_append, fnz, ih]
theorem fnz_lt (a b : List Int) : decide (fnz (zipC a b) < 0) = lexLt a b := by
  induction a generalizing b with
  | nil => cases b <;> simp [zipC, fnz, lexLt]
  | cons x a ih =>
    cases b with
    | nil => simp [zipC, fnz, lexLt]
    | cons y b =>
      simp only [zipC, fnz, lexLt, ← ih b]
      unfold cmp3
      by_cases h1 : x < y
      · simp [h1]
      · by_cases h2 : x > y
        · have : (x == y) = false := by simp; omega
          simp [h1, h2, this]
        · have : x = y := by omega
          subst this; simp
theorem lexLt_irrefl (a : List Int) : lexLt a a = false := by
  induction a with
  | nil => rfl
  | cons x a ih => simp [lexLt, ih]
theorem lexLt_trans : ∀ (a b c : List Int), lexLt a b = true → lexLt b c = true → lexLt a c = true
  | [], _, _, h, _ => by simp [lexLt] at h
  | _ :: _, [], _, h, _ => by simp [lexLt] at h
  | _ :: _, _ :: _, [], _, h => by simp [lexLt] at h
  | x :: a, y :: b, z :: c, h1, h2 => by
    simp only [lexLt, Bool.or_eq_true, decide_eq_true_eq, Bool.and_eq_true, beq_iff_eq] at h1 h2 ⊢
    rcases h1 with h1 | ⟨h1, h1'⟩ <;> rcases h2 with h2 | ⟨h2, h2'⟩
    · left; omega
    · left; omega
    · left; omega
    · right; exact ⟨by omega, lexLt_trans a b c h1' h2'⟩
theorem lexLt_ntrans : ∀ (a b c : List Int), a.length = b.length → b.length = c.length → lexLt a b = false → lexLt b c = false → lexLt a c = false
  | [], _, _, _, _, _, _ => by simp [lexLt]
  | _ :: _, [], _, h, _, _, _ => by simp at h
  | _ :: _, _ :: _, [], _, h, _, _ => by simp at h
  | x :: a, y :: b, z :: c, l1, l2, h1, h2 => by
    simp only [lexLt, Bool.or_eq_false_iff, decide_eq_false_iff_not, Bool.and_eq_false_iff, beq_eq_false_iff_ne, ne_eq] at h1 h2 ⊢
    refine ⟨by omega, ?_⟩
    by_cases e : x = z
    · right
      have e1 : x = y := by omega
      have e2 : y = z := by omega
      exact lexLt_ntrans a b c (by simpa using l1) (by simpa using l2) (h1.2.resolve_left (fun h => h e1)) (h2.2.resolve_left (fun h => h e2))
    · exact .inl e
theorem lexLt_tot : ∀ (a b : List Int), a.length = b.length → lexLt a b = false → lexLt b a = false → a = b
  | [], [], _, _, _ => rfl
  | [], _ :: _, h, _, _ => by simp at h
  | _ :: _, [], h, _, _ => by simp at h
  | x :: a, y :: b, l, h1, h2 => by
    simp only [lexLt, Bool.or_eq_false_iff, decide_eq_false_iff_not, Bool.and_eq_false_iff, beq_eq_false_iff_ne, ne_eq] at h1 h2
    have e : x = y := by omega
    subst e
    rw [lexLt_tot a b (by simpa using l) (h1.2.resolve_left (fun h => h rfl)) (h2.2.resolve_left (fun h => h rfl))]

theorem compare_eq (x y : Int) : cmp_Compare_int x y = some (cmp3 x y) := by
  simp only [cmp_Compare_int, cmp_isNaN_int, Option.bind_some]
  have : (x != x) = false := by simp
  have h2 : (y != y) = false := by simp
  simp only [this, h2, Bool.false_eq_true, if_false, decide_eq_true_eq, cmp3]
  split
  · rfl
  · split <;> rfl
theorem or_eq (l : List Int) (hl : l.length ≤ 1000) : cmp_Or_int l = some (fnz l) := by
  unfold cmp_Or_int
  refine iter_eq (fun a => ∃ k : Nat, a = (k : Int) ∧ k ≤ l.length ∧ fnz (l.drop k) = fnz l) (fun a => l.length - a.toNat) (fnz l) (fun a ⟨k, h1, h2, h3⟩ => ?_) (a0 := (0 : Int)) ⟨0, rfl, Nat.zero_le _, rfl⟩ (lt_ROUNDS (by simp; omega))
  subst h1
  by_cases hk : k < l.length
  · have hw : W ((k : Int) + 1) = ((k + 1 : Nat) : Int) := W_id (by omega) (by omega)
    rw [List.drop_eq_getElem_cons hk] at h3
    simp only [fnz] at h3
    by_cases hz : l[k] = 0
    · refine .inl ⟨((k + 1 : Nat) : Int), ?_, ⟨k + 1, rfl, hk, by simpa [hz] using h3⟩, by omega⟩
      simp [cmp_Or_int_L1, hk, idx_ok (List.getElem?_eq_getElem hk), hz, hw]
    · refine .inr ?_
      simp only [ne_eq, hz, not_false_eq_true, if_true] at h3
      rw [← h3]
      simp [cmp_Or_int_L1, hk, idx_ok (List.getElem?_eq_getElem hk), hz]
  · refine .inr ?_
    have : l.drop k = [] := List.drop_eq_nil_of_le (by omega)
    rw [this] at h3
    have hk' : ¬ ((k : Int) < l.length) := by omega
    simp [cmp_Or_int_L1, hk', cmp_Or_int_K1, ← h3, fnz]
def fl (b : Bool) : Int := if b = true then 1 else 0
theorem flag_eq (b : Bool) : chain_flag b = some (fl b) := by cases b <;> rfl
def pkey (p : api_Params) : List Int := [p.Rate, p.Channels, p.Depth]
def ckey (x : chain_Cand) : List Int := [x.Offset, x.Size, x.Number, x.Block, fl x.Variable, x.Params.Rate, x.Params.Channels, x.Params.Depth]
def gkey (x : chain_Guess) : List Int := [fl x.Variable, x.Params.Rate, x.Params.Channels, x.Params.Depth, x.Block]
theorem params_eq (x y : api_Params) : chain_params x y = some (fnz (zipC (pkey x) (pkey y))) := by
  simp only [chain_params, compare_eq, Option.bind_some]
  rw [or_eq _ (by simp)]; rfl
theorem cCompare_eq (x y : chain_Cand) : chain_Compare x y = some (fnz (zipC (ckey x) (ckey y))) := by
  simp only [chain_Compare, compare_eq, flag_eq, params_eq, Option.bind_some]
  rw [or_eq _ (by simp)]
  simp only [Option.bind_some, Option.some.injEq]
  exact fnz_app [_, _, _, _, _] _
theorem fnz_app3 (a b : List Int) (c : Int) : fnz (a ++ [fnz b, c]) = fnz (a ++ b ++ [c]) := by
  induction a with
  | nil =>
    simp only [List.nil_append]
    induction b with
    | nil => simp [fnz]
    | cons x b ih => simp only [fnz, List.cons_append] at ih ⊢; split <;> simp_all
  | cons x a ih => simp only [List.cons_append, fnz, ih]
theorem gcompare_eq (x y : chain_Guess) : chain_compare x y = some (fnz (zipC (gkey x) (gkey y))) := by
  simp only [chain_compare, compare_eq, flag_eq, params_eq, Option.bind_some]
  rw [or_eq _ (by simp)]
  simp only [Option.bind_some, Option.some.injEq]
  exact fnz_app3 [_] _ _
abbrev cless (x y : chain_Cand) : Bool := lexLt (ckey x) (ckey y)
abbrev gless (x y : chain_Guess) : Bool := lexLt (gkey x) (gkey y)
theorem cCompare_lt (x y : chain_Cand) : decide ((chain_Compare x y).getD 0 < 0) = cless x y := by rw [cCompare_eq]; exact fnz_lt _ _
theorem gcompare_lt (x y : chain_Guess) : decide ((chain_compare x y).getD 0 < 0) = gless x y := by rw [gcompare_eq]; exact fnz_lt _ _
theorem fl_inj {a b : Bool} (h : fl a = fl b) : a = b := by cases a <;> cases b <;> simp [fl] at h <;> rfl
theorem ckey_inj {x y : chain_Cand} (h : ckey x = ckey y) : x = y := by
  obtain ⟨⟨a, b, c⟩, d, e, f, g, i⟩ := x
  obtain ⟨⟨a', b', c'⟩, d', e', f', g', i'⟩ := y
  simp only [ckey, List.cons.injEq, and_true] at h
  obtain ⟨rfl, rfl, rfl, rfl, h5, rfl, rfl, rfl⟩ := h
  rw [fl_inj h5]
theorem gkey_inj {x y : chain_Guess} (h : gkey x = gkey y) : x = y := by
  obtain ⟨⟨a, b, c⟩, d, e⟩ := x
  obtain ⟨⟨a', b', c'⟩, d', e'⟩ := y
  simp only [gkey, List.cons.injEq, and_true] at h
  obtain ⟨h5, rfl, rfl, rfl, rfl⟩ := h
  rw [fl_inj h5]
theorem swo_key {α : Type} (k : α → List Int) (n : Nat) (hn : ∀ x, (k x).length = n) {F : α → α → Option Int} (hF : ∀ x y, decide ((F x y).getD 0 < 0) = lexLt (k x) (k y)) : Go.Sort.SWO (fun x y => decide ((F x y).getD 0 < 0)) := by
  simp only [hF]
  exact ⟨fun x => lexLt_irrefl _, fun x y z => lexLt_trans _ _ _, fun x y z => lexLt_ntrans _ _ _ (by rw [hn, hn]) (by rw [hn, hn])⟩
theorem tot_key {α : Type} (k : α → List Int) (n : Nat) (hn : ∀ x, (k x).length = n) {F : α → α → Option Int} (hF : ∀ x y, decide ((F x y).getD 0 < 0) = lexLt (k x) (k y)) (hi : ∀ {x y}, k x = k y → x = y) (x y : α) (h1 : ¬ (F x y).getD 0 < 0) (h2 : ¬ (F y x).getD 0 < 0) : x = y := by
  have h1 : lexLt (k x) (k y) = false := by rw [← hF]; simpa using h1
  have h2 : lexLt (k y) (k x) = false := by rw [← hF]; simpa using h2
  exact hi (lexLt_tot _ _ (by rw [hn, hn]) h1 h2)
end Go.Vg
