/- Operations that only compute. -/
import Derived.Test.YtnapnedfhimikaaDoorVgB
import Derived.Laws.Strings
set_option maxRecDepth 4000
set_option linter.all false
set_option linter.unusedVariables false
set_option linter.unusedSimpArgs false
namespace Go.Vg
open Go

def cmpI (o : BinOp) (a b : IE) : BE :=
  match a, b with
  | .lit x, .lit y => .lit (cmpD o x y)
  | _, _ => .cmp o a b
def arI (o : BinOp) (k : IntKind) (a b : IE) : IE :=
  match a, b with
  | .lit x, .lit y => match o with
    | .add => .lit (arD .add k x y)
    | .sub => .lit (arD .sub k x y)
    | .mul => .lit (arD .mul k x y)
    | _ => .ar o k a b
  | _, _ => .ar o k a b
def wrapI (k k' : IntKind) (a : IE) : IE := bif decide (lo k ≤ lo k') && decide (hi k' ≤ hi k) then a else .wrap k a
def iteB (c a b : BE) : BE :=
  match a, b with
  | .lit true, .lit false => c
  | _, _ => .ite c a b
def notB (a : BE) : BE :=
  match a with
  | .lit b => .lit (!b)
  | .not b => b
  | _ => .not a

theorem cmpI_den (o : BinOp) (a b : IE) : (cmpI o a b).den = cmpD o a.den b.den := by
  unfold cmpI; split <;> simp [BE.den, IE.den]
theorem arI_den (o : BinOp) (k : IntKind) (a b : IE) : (arI o k a b).den = arD o k a.den b.den := by
  unfold arI; split
  · split <;> simp [IE.den]
  · simp [IE.den]
theorem iteB_den (c a b : BE) : (iteB c a b).den = if c.den = true then a.den else b.den := by
  unfold iteB; split
  · simp only [BE.den]; cases c.den <;> simp
  · simp [BE.den]
theorem notB_den (a : BE) : (notB a).den = !a.den := by
  unfold notB; split <;> simp [BE.den]
theorem wrap_id {k : IntKind} {n : Int} (h : k.has n) : k.wrap n = n := by
  rw [has_iff] at h
  cases k <;> simp only [lo, hi] at h <;> simp only [IntKind.wrap, IntKind.bits, IntKind.signed] <;> simp <;> omega
theorem wrap_has (k : IntKind) (n : Int) : k.has (k.wrap n) := by
  rw [has_iff]
  cases k <;> simp only [lo, hi, IntKind.wrap, IntKind.bits, IntKind.signed] <;> simp <;> omega
theorem wrapI_den {k k' : IntKind} {a : IE} (h : k'.has a.den) : (wrapI k k' a).den = k.wrap a.den := by
  unfold wrapI
  cases hc : decide (lo k ≤ lo k') && decide (hi k' ≤ hi k) with
  | false => simp [IE.den]
  | true =>
    simp only [cond_true]
    simp only [Bool.and_eq_true, decide_eq_true_eq] at hc
    rw [has_iff] at h
    exact (wrap_id (by rw [has_iff]; omega)).symm

/-- A number that is not below 0 by its form. -/
def IE.nn : IE → Bool
  | .lit n => decide (0 ≤ n)
  | .nat _ => true
  | .byte _ => true
  | .len _ => true
  | .slen _ => true
  | _ => false
theorem IE.nn_den {e : IE} (h : e.nn = true) : 0 ≤ e.den := by
  cases e <;> simp_all [IE.nn, IE.den] <;> omega
def IE.nz : IE → Bool
  | .lit n => decide (n ≠ 0)
  | _ => false
theorem IE.nz_den {e : IE} (h : e.nz = true) : e.den ≠ 0 := by
  cases e <;> simp_all [IE.nz, IE.den]

def keq (a b : IntKind) : Bool := decide (a = b)

def binV (op : BinOp) (x y : V) : Option V :=
  match x, y with
  | .int k a, .int k' b =>
    match op with
    | .shl => bif b.nn then some (.int k (.sh .shl k a b)) else none
    | .shr => bif b.nn then some (.int k (.sh .shr k a b)) else none
    | .quo => bif b.nz && keq k k' then some (.int k (arI .quo k a b)) else none
    | .rem => bif b.nz && keq k k' then some (.int k (arI .rem k a b)) else none
    | .add => bif keq k k' then some (.int k (arI .add k a b)) else none
    | .sub => bif keq k k' then some (.int k (arI .sub k a b)) else none
    | .mul => bif keq k k' then some (.int k (arI .mul k a b)) else none
    | .and => bif keq k k' then some (.int k (arI .and k a b)) else none
    | .or => bif keq k k' then some (.int k (arI .or k a b)) else none
    | .xor => bif keq k k' then some (.int k (arI .xor k a b)) else none
    | .andNot => bif keq k k' then some (.int k (arI .andNot k a b)) else none
    | .eql => bif keq k k' then some (.bool (cmpI .eql a b)) else none
    | .neq => bif keq k k' then some (.bool (cmpI .neq a b)) else none
    | .lss => bif keq k k' then some (.bool (cmpI .lss a b)) else none
    | .leq => bif keq k k' then some (.bool (cmpI .leq a b)) else none
    | .gtr => bif keq k k' then some (.bool (cmpI .gtr a b)) else none
    | .geq => bif keq k k' then some (.bool (cmpI .geq a b)) else none
  | .str a, .str b =>
    match op with
    | .eql => some (.bool (.seq a b))
    | .neq => some (.bool (.not (.seq a b)))
    | _ => none
  | _, _ => none
/-- What is to be shown ahead of an operation, and what it yields. -/
def divV (op : BinOp) (x y : V) : Option (BE × V) :=
  match x, y with
  | .int k a, .int k' b =>
    match op with
    | .quo => bif keq k k' then some (cmpI .neq b (.lit 0), .int k (arI .quo k a b)) else none
    | .rem => bif keq k k' then some (cmpI .neq b (.lit 0), .int k (arI .rem k a b)) else none
    | .shl => some (cmpI .geq b (.lit 0), .int k (.sh .shl k a b))
    | .shr => some (cmpI .geq b (.lit 0), .int k (.sh .shr k a b))
    | _ => none
  | _, _ => none

theorem tmod_has {k : IntKind} {a b : Int} (ha : k.has a) : k.has (a.tmod b) := by
  rw [has_iff] at *
  have h1 : (a.tmod b).natAbs ≤ a.natAbs := by rw [Int.natAbs_tmod]; exact Nat.mod_le _ _
  rcases Int.lt_or_le a 0 with h | h
  · have h2 : a.tmod b ≤ 0 := by
      have := Int.tmod_nonneg b (a := -a) (by omega)
      rw [Int.neg_tmod] at this; omega
    cases k <;> simp only [lo, hi] at * <;> omega
  · have h2 := Int.tmod_nonneg b h
    cases k <;> simp only [lo, hi] at * <;> omega
theorem fdiv_pow_has {k : IntKind} {a : Int} (n : Nat) (ha : k.has a) : k.has (a.fdiv (2 ^ n)) := by
  rw [has_iff] at *
  have hp : (0 : Int) < 2 ^ n := Int.pow_pos (by decide)
  rw [Int.fdiv_eq_ediv_of_nonneg _ (Int.le_of_lt hp)]
  have h1 : a / 2 ^ n ≤ hi k := by
    rcases Int.lt_or_le a 0 with h | h
    · have : a / 2 ^ n < 0 := Int.ediv_neg_of_neg_of_pos h hp
      have : 0 ≤ hi k := by cases k <;> decide
      omega
    · exact Int.le_trans (Int.ediv_le_self _ h) ha.2
  refine ⟨?_, h1⟩
  rcases Int.lt_or_le a 0 with h | h
  · rw [Int.le_ediv_iff_mul_le hp]
    have h2 : (1 : Int) ≤ 2 ^ n := hp
    have h3 : lo k ≤ 0 := by cases k <;> decide
    have h4 : lo k * 2 ^ n ≤ lo k * 1 := Int.mul_le_mul_of_nonpos_left h3 h2
    omega
  · have h3 : lo k ≤ 0 := by cases k <;> decide
    have := Int.ediv_nonneg h (Int.le_of_lt hp)
    omega

theorem ra_int {w : World} {F : Nat → Prop} {β : Bt} {o : Own} {k : IntKind} {e : IE} {n : Int} (h : e.den = n) (hk : k.has n) : RA w F β o (.int k n) (.int k e) := .d _ _ (.int _ _ _ h hk)
theorem ra_bool {w : World} {F : Nat → Prop} {β : Bt} {o : Own} {e : BE} {b : Bool} (h : e.den = b) : RA w F β o (.bool b) (.bool e) := .d _ _ (.bool _ _ h)

theorem bif_some {α : Type _} {c : Bool} {x z : α} (h : (bif c then some x else none) = some z) : c = true ∧ x = z := by
  cases c <;> simp_all

theorem binV_run {P : Program} {w : World} {F : Nat → Prop} {β : Bt} {o : Own} {op : BinOp} {t : TypeId} {ox oy : Operand} {x y : V} {a b : Value} {z : V}
    (ha : RA w F β o a x) (hb : RA w F β o b y) (h : binV op x y = some z) :
    ∃ v, (∀ w', (do eqGuard op t ox oy a b; binOp op t a b : Sem Value).run P w' = .ok v w') ∧ RA w F β o v z := by
  unfold binV at h
  split at h
  · rename_i k e k' e'
    obtain ⟨rfl, hka⟩ := RA.of_int ha
    obtain ⟨rfl, hkb⟩ := RA.of_int hb
    have hg : ∀ w', (eqGuard op t ox oy (.int k e.den) (.int k' e'.den)).run P w' = .ok () w' := by
      intro w'; unfold eqGuard; cases op <;> rfl
    simp only [Sem.run_bind, hg, Result.andThen_ok]
    split at h <;> obtain ⟨hc, rfl⟩ := bif_some h <;>
      (try simp only [Bool.and_eq_true, keq, decide_eq_true_eq] at hc)
    case h_1 =>
      have hn := IE.nn_den hc
      have hn' : ¬ (e'.den < 0) := by omega
      exact ⟨.int k (shD .shl k e.den e'.den), fun w' => by simp [binOp, Op.shift, hn', shD], ra_int (by simp [IE.den]) (wrap_has _ _)⟩
    case h_2 =>
      have hn := IE.nn_den hc
      have hn' : ¬ (e'.den < 0) := by omega
      exact ⟨.int k (shD .shr k e.den e'.den), fun w' => by simp [binOp, Op.shift, hn', shD], ra_int (by simp [IE.den]) (fdiv_pow_has _ hka)⟩
    case h_3 =>
      obtain ⟨hc1, rfl⟩ := hc
      have hn := IE.nz_den hc1
      exact ⟨.int k (arD .quo k e.den e'.den), fun w' => by simp [binOp, Op.intDiv, hn, arD], ra_int (arI_den _ _ _ _) (wrap_has _ _)⟩
    case h_4 =>
      obtain ⟨hc1, rfl⟩ := hc
      have hn := IE.nz_den hc1
      exact ⟨.int k (arD .rem k e.den e'.den), fun w' => by simp [binOp, Op.intDiv, hn, arD], ra_int (arI_den _ _ _ _) (tmod_has hka)⟩
    case h_5 => subst hc; exact ⟨.int k (arD .add k e.den e'.den), fun w' => by simp [binOp, Op.intArith, arD], ra_int (arI_den _ _ _ _) (wrap_has _ _)⟩
    case h_6 => subst hc; exact ⟨.int k (arD .sub k e.den e'.den), fun w' => by simp [binOp, Op.intArith, arD], ra_int (arI_den _ _ _ _) (wrap_has _ _)⟩
    case h_7 => subst hc; exact ⟨.int k (arD .mul k e.den e'.den), fun w' => by simp [binOp, Op.intArith, arD], ra_int (arI_den _ _ _ _) (wrap_has _ _)⟩
    case h_8 => subst hc; exact ⟨.int k (arD .and k e.den e'.den), fun w' => by simp [binOp, Op.intBits, arD], ra_int (arI_den _ _ _ _) (wrap_has _ _)⟩
    case h_9 => subst hc; exact ⟨.int k (arD .or k e.den e'.den), fun w' => by simp [binOp, Op.intBits, arD], ra_int (arI_den _ _ _ _) (wrap_has _ _)⟩
    case h_10 => subst hc; exact ⟨.int k (arD .xor k e.den e'.den), fun w' => by simp [binOp, Op.intBits, arD], ra_int (arI_den _ _ _ _) (wrap_has _ _)⟩
    case h_11 => subst hc; exact ⟨.int k (arD .andNot k e.den e'.den), fun w' => by simp [binOp, Op.intBits, arD], ra_int (arI_den _ _ _ _) (wrap_has _ _)⟩
    case h_12 => subst hc; exact ⟨.bool (cmpD .eql e.den e'.den), fun w' => by simp [binOp, Op.intCmp, cmpD], ra_bool (cmpI_den _ _ _)⟩
    case h_13 => subst hc; exact ⟨.bool (cmpD .neq e.den e'.den), fun w' => by simp [binOp, Op.intCmp, cmpD], ra_bool (cmpI_den _ _ _)⟩
    case h_14 => subst hc; exact ⟨.bool (cmpD .lss e.den e'.den), fun w' => by simp [binOp, Op.intCmp, cmpD], ra_bool (cmpI_den _ _ _)⟩
    case h_15 => subst hc; exact ⟨.bool (cmpD .leq e.den e'.den), fun w' => by simp [binOp, Op.intCmp, cmpD], ra_bool (cmpI_den _ _ _)⟩
    case h_16 => subst hc; exact ⟨.bool (cmpD .gtr e.den e'.den), fun w' => by simp [binOp, Op.intCmp, cmpD], ra_bool (cmpI_den _ _ _)⟩
    case h_17 => subst hc; exact ⟨.bool (cmpD .geq e.den e'.den), fun w' => by simp [binOp, Op.intCmp, cmpD], ra_bool (cmpI_den _ _ _)⟩
  · rename_i e e'
    obtain ⟨rfl, hka⟩ := RA.of_str ha
    obtain ⟨rfl, hkb⟩ := RA.of_str hb
    have hg : ∀ w', (eqGuard op t ox oy (.string ⟨e.den.toArray⟩) (.string ⟨e'.den.toArray⟩)).run P w' = .ok () w' := by
      intro w'; unfold eqGuard; cases op <;> rfl
    have hl : ∀ l : List UInt8, (ByteArray.mk l.toArray).toList = l := fun l => ByteArray.toList_mk l
    simp only [Sem.run_bind, hg, Result.andThen_ok]
    split at h <;> simp only [reduceCtorEq, Option.some.injEq] at h <;> subst h
    · exact ⟨.bool (e.den == e'.den), fun w' => by simp [binOp, Op.stringOp, hl], ra_bool (by simp [BE.den])⟩
    · exact ⟨.bool (!(e.den == e'.den)), fun w' => by simp [binOp, Op.stringOp, hl], ra_bool (by simp [BE.den])⟩
  · cases h

theorem divV_run {P : Program} {w : World} {F : Nat → Prop} {β : Bt} {o : Own} {op : BinOp} {t : TypeId} {ox oy : Operand} {x y : V} {a b : Value} {q : BE} {z : V}
    (ha : RA w F β o a x) (hb : RA w F β o b y) (h : divV op x y = some (q, z)) (hq : q.den = true) :
    ∃ v, (∀ w', (do eqGuard op t ox oy a b; binOp op t a b : Sem Value).run P w' = .ok v w') ∧ RA w F β o v z := by
  unfold divV at h
  split at h
  · rename_i k e k' e'
    obtain ⟨rfl, hka⟩ := RA.of_int ha
    obtain ⟨rfl, hkb⟩ := RA.of_int hb
    have hg : ∀ w', (eqGuard op t ox oy (.int k e.den) (.int k' e'.den)).run P w' = .ok () w' := by
      intro w'; unfold eqGuard; cases op <;> rfl
    simp only [Sem.run_bind, hg, Result.andThen_ok]
    split at h
    · obtain ⟨hc, h⟩ := bif_some h
      simp only [Prod.mk.injEq] at h
      obtain ⟨rfl, rfl⟩ := h
      simp only [keq, decide_eq_true_eq] at hc
      subst hc
      have hn : e'.den ≠ 0 := by simpa [cmpI_den, cmpD, IE.den] using hq
      exact ⟨.int k (arD .quo k e.den e'.den), fun w' => by simp [binOp, Op.intDiv, hn, arD], ra_int (arI_den _ _ _ _) (wrap_has _ _)⟩
    · obtain ⟨hc, h⟩ := bif_some h
      simp only [Prod.mk.injEq] at h
      obtain ⟨rfl, rfl⟩ := h
      simp only [keq, decide_eq_true_eq] at hc
      subst hc
      have hn : e'.den ≠ 0 := by simpa [cmpI_den, cmpD, IE.den] using hq
      exact ⟨.int k (arD .rem k e.den e'.den), fun w' => by simp [binOp, Op.intDiv, hn, arD], ra_int (arI_den _ _ _ _) (tmod_has hka)⟩
    · simp only [Option.some.injEq, Prod.mk.injEq] at h
      obtain ⟨rfl, rfl⟩ := h
      have hn : 0 ≤ e'.den := by simpa [cmpI_den, cmpD, IE.den] using hq
      have hn' : ¬ (e'.den < 0) := by omega
      exact ⟨.int k (shD .shl k e.den e'.den), fun w' => by simp [binOp, Op.shift, hn', shD], ra_int (by simp [IE.den]) (wrap_has _ _)⟩
    · simp only [Option.some.injEq, Prod.mk.injEq] at h
      obtain ⟨rfl, rfl⟩ := h
      have hn : 0 ≤ e'.den := by simpa [cmpI_den, cmpD, IE.den] using hq
      have hn' : ¬ (e'.den < 0) := by omega
      exact ⟨.int k (shD .shr k e.den e'.den), fun w' => by simp [binOp, Op.shift, hn', shD], ra_int (by simp [IE.den]) (fdiv_pow_has _ hka)⟩
    · cases h
  · cases h

end Go.Vg
