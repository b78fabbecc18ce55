/- Equality of structs and arrays of plain cells: cell by cell. -/
import Derived.Test.YtnapnedfhimikaaDoorVgA
import Derived.Laws.StructEq
import Derived.Laws.Tables
set_option maxRecDepth 4000
set_option linter.all false
set_option linter.unusedVariables false
set_option linter.unusedSimpArgs false
namespace Go.Vg
open Go

inductive SK
  | i | b | s
/-- Two cells of a kind. -/
def scal2 : SK → Value → Value → Bool
  | .i, .int k _, .int k' _ => decide (k = k')
  | .b, .bool _, .bool _ => true
  | .s, .string _, .string _ => true
  | _, _, _ => false
def vEq : Value → Value → Bool
  | .int _ a, .int _ b => a == b
  | .bool a, .bool b => a == b
  | .string a, .string b => a.toList == b.toList
  | _, _ => false
def vEqs : List Value → List Value → Bool
  | a :: r, b :: q => vEq a b && vEqs r q
  | _, _ => true
def scals : List SK → List Value → List Value → Bool
  | k :: ks, a :: r, b :: q => scal2 k a b && scals ks r q
  | [], [], [] => true
  | _, _, _ => false

theorem vEqs_append : ∀ (a b : List Value) (c d : List Value), a.length = b.length → vEqs (a ++ c) (b ++ d) = (vEqs a b && vEqs c d)
  | [], [], c, d, _ => by simp [vEqs]
  | x :: r, y :: q, c, d, h => by simp [vEqs, vEqs_append r q c d (by simpa using h), Bool.and_assoc]
  | [], _ :: _, _, _, h => by simp at h
  | _ :: _, [], _, _, h => by simp at h
theorem scals_len : ∀ {ks : List SK} {a b : List Value}, scals ks a b = true → a.length = ks.length ∧ b.length = ks.length
  | [], [], [], _ => ⟨rfl, rfl⟩
  | k :: ks, x :: r, y :: q, h => by simp only [scals, Bool.and_eq_true] at h; have := scals_len h.2; simp [this.1, this.2]
  | [], _ :: _, _, h => by simp [scals] at h
  | [], [], _ :: _, h => by simp [scals] at h
  | _ :: _, [], _, h => by simp [scals] at h
  | _ :: _, _ :: _, [], h => by simp [scals] at h
theorem scals_split : ∀ {ks ls : List SK} {a b : List Value}, scals (ks ++ ls) a b = true → scals ks (a.take ks.length) (b.take ks.length) = true ∧ scals ls (a.drop ks.length) (b.drop ks.length) = true
  | [], ls, a, b, h => by simpa [scals] using h
  | k :: ks, ls, x :: r, y :: q, h => by
    simp only [List.cons_append, scals, Bool.and_eq_true] at h
    have := scals_split h.2
    simp [scals, h.1, this.1, this.2]
  | _ :: _, _, [], _, h => by simp [scals] at h
  | _ :: _, _, _ :: _, [], h => by simp [scals] at h

def reps {α : Type} (l : List α) : Nat → List α
  | 0 => []
  | n + 1 => l ++ reps l n
theorem reps_len {α : Type} (l : List α) (n : Nat) : (reps l n).length = n * l.length := by
  induction n with
  | zero => simp [reps]
  | succ n ih => simp [reps, ih, Nat.succ_mul, Nat.add_comm]

-- Which cells a type has whose values are told apart cell by cell.
mutual
def eqN' (P : Program) : Nat → TypeId → Option (List SK)
  | 0, _ => none
  | f + 1, t => match P.underlying t, P.info? t with
    | some (.int _), some info => bif decide (info.size = 1) then some [.i] else none
    | some .bool, some info => bif decide (info.size = 1) then some [.b] else none
    | some .string, some info => bif decide (info.size = 1) then some [.s] else none
    | some (.struct fs), some info => bif !(P.stoodInHeld t) then (match eqF P f 0 fs.toList with
        | some ks => bif decide (info.size = ks.length) then some ks else none
        | none => none) else none
    | some (.array m e), some info => match eqN' P f e, P.info? e with
        | some ks, some ie => bif decide (info.size = m * ks.length) && decide (ie.size = ks.length) then some (reps ks m) else none
        | _, _ => none
    | _, _ => none
def eqF (P : Program) : Nat → Nat → List Field → Option (List SK)
  | _, _, [] => some []
  | 0, _, _ :: _ => none
  | f + 1, off, x :: r => bif (x.name != "_") && decide (x.offset = off) then (match eqN' P f x.type with
    | some ks => match eqF P f (off + ks.length) r with
      | some ls => some (ks ++ ls)
      | none => none
    | none => none) else none
end

/-- A value of a type, by its cells. -/
def ofCells (P : Program) (t : TypeId) (cs : List Value) : Value :=
  match P.underlying t with
  | some (.struct _) => .agg cs.toArray
  | some (.array _ _) => .agg cs.toArray
  | _ => cs.headD undef

theorem bif_some2 {α : Type _} {c : Bool} {x : Option α} {z : α} (h : (bif c then x else none) = some z) : c = true ∧ x = some z := by
  cases c <;> simp_all

section
variable {P : Program}

theorem extract_take (cs : List Value) (i n : Nat) : cs.toArray.extract i (i + n) = ((cs.drop i).take n).toArray := by
  apply Array.ext'
  rw [Array.toList_extract]
  simp

theorem head_take (cs : List Value) (off : Nat) (h : off + 1 ≤ cs.length) : cs.toArray[off]? = some (((cs.drop off).take 1).headD undef) := by
  have hlt : off < cs.length := by omega
  have : cs.drop off = cs[off] :: cs.drop (off + 1) := List.drop_eq_getElem_cons hlt
  rw [this, List.take_succ_cons, List.headD_cons, List.getElem?_toArray]
  exact List.getElem?_eq_getElem hlt

theorem part_of {t : TypeId} {ks : List SK} {f : Nat} (h : eqN' P f t = some ks) (cs : List Value) (off : Nat) (hl : off + ks.length ≤ cs.length) (w : World) : (part t cs.toArray off).run P w = .ok (ofCells P t ((cs.drop off).take ks.length)) w := by
  cases f with
  | zero => simp [eqN'] at h
  | succ f =>
    simp only [eqN'] at h
    split at h
    case h_1 k info h1 h2 =>
      obtain ⟨hs, h⟩ := bif_some2 h
      cases h
      simp only [part, isAgg, Sem.run_bind, run_underlying h1, Result.andThen_ok, Sem.run_pure, Bool.false_eq_true, if_false, ofCells, h1, head_take cs off hl]
      rfl
    case h_2 info h1 h2 =>
      obtain ⟨hs, h⟩ := bif_some2 h
      cases h
      simp only [part, isAgg, Sem.run_bind, run_underlying h1, Result.andThen_ok, Sem.run_pure, Bool.false_eq_true, if_false, ofCells, h1, head_take cs off hl]
      rfl
    case h_3 info h1 h2 =>
      obtain ⟨hs, h⟩ := bif_some2 h
      cases h
      simp only [part, isAgg, Sem.run_bind, run_underlying h1, Result.andThen_ok, Sem.run_pure, Bool.false_eq_true, if_false, ofCells, h1, head_take cs off hl]
      rfl
    case h_4 fs info h1 h2 =>
      obtain ⟨_, h⟩ := bif_some2 h
      split at h
      · obtain ⟨hs, h⟩ := bif_some2 h
        cases h
        have hs := of_decide_eq_true hs
        simp [part, isAgg, run_underlying h1, ofCells, h1, sizeOf, typeInfo, h2, hs, extract_take]
      · cases h
    case h_5 m e info h1 h2 =>
      split at h
      · obtain ⟨hs, h⟩ := bif_some2 h
        cases h
        simp only [Bool.and_eq_true, decide_eq_true_eq] at hs
        simp [part, isAgg, run_underlying h1, ofCells, h1, sizeOf, typeInfo, h2, hs.1, extract_take, reps_len]
      · cases h
    case h_6 => cases h

theorem scal_one {k : SK} {as bs : List Value} (hs : scals [k] as bs = true) : ∃ a b, as = [a] ∧ bs = [b] ∧ scal2 k a b = true := by
  obtain ⟨h1, h2⟩ := scals_len hs
  match as, bs, h1, h2, hs with
  | [a], [b], _, _, hs => exact ⟨a, b, rfl, rfl, by simpa [scals] using hs⟩

mutual
theorem equal_of : ∀ (f : Nat) {t : TypeId} {ks : List SK}, eqN' P f t = some ks → ∀ (d : Nat), f ≤ d → ∀ (as bs : List Value), scals ks as bs = true → ∀ w, (Op.equalIn d t (ofCells P t as) (ofCells P t bs)).run P w = .ok (vEqs as bs) w
  | 0, t, ks, h => by simp [eqN'] at h
  | f + 1, t, ks, h => by
    intro d hd as bs hs w
    obtain ⟨d, rfl⟩ : ∃ e, d = e + 1 := ⟨d - 1, by omega⟩
    simp only [eqN'] at h
    split at h
    case h_1 k info h1 h2 =>
      obtain ⟨_, h⟩ := bif_some2 h
      cases h
      obtain ⟨a, b, rfl, rfl, hab⟩ := scal_one hs
      simp only [ofCells, h1, List.headD_cons, vEqs, Bool.and_true]
      cases a <;> cases b <;> simp only [scal2, decide_eq_true_eq, Bool.false_eq_true] at hab
      subst hab
      exact run_equalIn_int w d t _ _ _ _ h1
    case h_2 info h1 h2 =>
      obtain ⟨_, h⟩ := bif_some2 h
      cases h
      obtain ⟨a, b, rfl, rfl, hab⟩ := scal_one hs
      simp only [ofCells, h1, List.headD_cons, vEqs, Bool.and_true]
      cases a <;> cases b <;> simp only [scal2, decide_eq_true_eq, Bool.false_eq_true] at hab
      exact run_equalIn_bool' w d t _ _ h1
    case h_3 info h1 h2 =>
      obtain ⟨_, h⟩ := bif_some2 h
      cases h
      obtain ⟨a, b, rfl, rfl, hab⟩ := scal_one hs
      simp only [ofCells, h1, List.headD_cons, vEqs, Bool.and_true]
      cases a <;> cases b <;> simp only [scal2, decide_eq_true_eq, Bool.false_eq_true] at hab
      exact run_equalIn_string w d t _ _ h1
    case h_4 fs info h1 h2 =>
      obtain ⟨hst, h⟩ := bif_some2 h
      split at h
      · rename_i ks' hf
        obtain ⟨_, h⟩ := bif_some2 h
        cases h
        have hfo : P.fieldsOf t = fs := by simp [Program.fieldsOf, h1]
        simp only [ofCells, h1]
        rw [run_equalIn_struct w d t as.toArray bs.toArray (by rw [hfo]; exact h1) (by simpa using hst), hfo]
        obtain ⟨e1, e2⟩ := scals_len hs
        have t1 : (as.drop 0).take ks.length = as := by rw [List.drop_zero, ← e1, List.take_length]
        have t2 : (bs.drop 0).take ks.length = bs := by rw [List.drop_zero, ← e2, List.take_length]
        have := fields_of f hf d (by omega) as bs (by omega) (by omega) (by rw [t1, t2]; exact hs) w
        rw [this, t1, t2]
      · cases h
    case h_5 m e info h1 h2 =>
      split at h
      · rename_i ks' ie hk hie
        obtain ⟨hsz, h⟩ := bif_some2 h
        cases h
        simp only [Bool.and_eq_true, decide_eq_true_eq] at hsz
        simp only [ofCells, h1]
        simp only [Op.equalIn, Sem.run_bind, run_underlying h1, Result.andThen_ok]
        have hso : (sizeOf e).run P w = .ok ks'.length w := by simp [sizeOf, typeInfo, hie, hsz.2]
        rw [hso]
        simp only [Result.andThen_ok]
        have hlen := scals_len hs
        rw [reps_len] at hlen
        have key : ∀ (k i : Nat), i + k = m → scals (reps ks' k) (as.drop (i * ks'.length)) (bs.drop (i * ks'.length)) = true →
            (forIn (List.range' i k) ((none, ()) : Option Bool × Unit) fun i (__s : Option Bool × Unit) => do
              let __do_lift ← part e as.toArray (i * ks'.length)
              let __do_lift_1 ← part e bs.toArray (i * ks'.length)
              let __do_lift ← Op.equalIn d e __do_lift __do_lift_1
              if (!__do_lift) = true then pure (ForInStep.done (some false, ())) else pure (ForInStep.yield (none, ())) : Sem (Option Bool × Unit)).run P w =
              .ok (if vEqs (as.drop (i * ks'.length)) (bs.drop (i * ks'.length)) = true then none else some false, ()) w := by
          intro k
          induction k with
          | zero =>
            intro i hi hsc
            simp only [reps] at hsc
            have := scals_len hsc
            have h1 : as.drop (i * ks'.length) = [] := List.eq_nil_of_length_eq_zero this.1
            have h2 : bs.drop (i * ks'.length) = [] := List.eq_nil_of_length_eq_zero this.2
            simp [h1, h2, vEqs]
          | succ k ih =>
            intro i hi hsc
            simp only [reps] at hsc
            obtain ⟨s1, s2⟩ := scals_split hsc
            have l1 := scals_len s1
            simp only [List.length_take, List.length_drop] at l1
            rw [List.drop_drop, List.drop_drop] at s2
            have e3 : i * ks'.length + ks'.length = (i + 1) * ks'.length := by rw [Nat.succ_mul]
            rw [e3] at s2
            have ih := ih (i + 1) (by omega) s2
            have hle : i * ks'.length + ks'.length ≤ as.length ∨ ks'.length = 0 := by omega
            have hle' : i * ks'.length + ks'.length ≤ bs.length ∨ ks'.length = 0 := by omega
            have bound : ∀ cs : List Value, cs.length = m * ks'.length → i * ks'.length + ks'.length ≤ cs.length := fun cs h => by
              rw [h, e3]; exact Nat.mul_le_mul_right _ (by omega)
            have p1 := part_of hk as (i * ks'.length) (bound as hlen.1) w
            have p2 := part_of hk bs (i * ks'.length) (bound bs hlen.2) w
            have p3 := equal_of f hk d (by omega) _ _ s1 w
            have hv : vEqs (as.drop (i * ks'.length)) (bs.drop (i * ks'.length)) = (vEqs ((as.drop (i * ks'.length)).take ks'.length) ((bs.drop (i * ks'.length)).take ks'.length) && vEqs (as.drop ((i + 1) * ks'.length)) (bs.drop ((i + 1) * ks'.length))) := by
              rw [← e3, ← List.drop_drop, ← List.drop_drop, ← vEqs_append _ _ _ _ (by simp; have := bound as hlen.1; have := bound bs hlen.2; omega), List.take_append_drop, List.take_append_drop]
            rw [List.range'_succ, List.forIn_cons]
            simp only [Sem.run_bind, p1, p2, p3, Result.andThen_ok]
            rw [hv]
            cases vEqs ((as.drop (i * ks'.length)).take ks'.length) ((bs.drop (i * ks'.length)).take ks'.length)
            · simp
            · simpa using ih
        have hkey := key m 0 (by omega) (by simpa using hs)
        have hr : ∀ (g : Nat → Option Bool × Unit → Sem (ForInStep (Option Bool × Unit))), forIn [:m] ((none, ()) : Option Bool × Unit) g = forIn (List.range' 0 m) (none, ()) g := fun g => by
          simp [Std.Legacy.Range.forIn_eq_forIn_range', Std.Legacy.Range.size]
        rw [hr, hkey]
        simp only [Nat.zero_mul, List.drop_zero, Result.andThen_ok]
        cases vEqs as bs <;> simp
      · cases h
    case h_6 => cases h
theorem fields_of : ∀ (f : Nat) {off : Nat} {fs : List Field} {ks : List SK}, eqF P f off fs = some ks → ∀ (d : Nat), f ≤ d → ∀ (as bs : List Value), off + ks.length ≤ as.length → off + ks.length ≤ bs.length → scals ks ((as.drop off).take ks.length) ((bs.drop off).take ks.length) = true → ∀ w, (Op.eqFields d as.toArray bs.toArray fs).run P w = .ok (vEqs ((as.drop off).take ks.length) ((bs.drop off).take ks.length)) w
  | _, off, [], ks, h => by
    intro d hd as bs _ _ _ w
    simp only [eqF, Option.some.injEq] at h; subst h
    simp [Op.eqFields, vEqs]
  | 0, off, x :: r, ks, h => by simp [eqF] at h
  | f + 1, off, x :: r, ks, h => by
    intro d hd as bs ha hb hs w
    simp only [eqF] at h
    obtain ⟨hc, h⟩ := bif_some2 h
    simp only [Bool.and_eq_true, decide_eq_true_eq, bne_iff_ne] at hc
    split at h
    · rename_i k1 hk
      split at h
      · rename_i k2 hr
        simp only [Option.some.injEq] at h; subst h
        simp only [List.length_append] at ha hb hs ⊢
        obtain ⟨s1, s2⟩ := scals_split hs
        have e1 : ((as.drop off).take (k1.length + k2.length)).take k1.length = (as.drop off).take k1.length := by rw [List.take_take]; congr 1; omega
        have e2 : ((bs.drop off).take (k1.length + k2.length)).take k1.length = (bs.drop off).take k1.length := by rw [List.take_take]; congr 1; omega
        have e3 : ((as.drop off).take (k1.length + k2.length)).drop k1.length = (as.drop (off + k1.length)).take k2.length := by rw [List.drop_take, List.drop_drop]; congr 1; omega
        have e4 : ((bs.drop off).take (k1.length + k2.length)).drop k1.length = (bs.drop (off + k1.length)).take k2.length := by rw [List.drop_take, List.drop_drop]; congr 1; omega
        rw [e1, e2] at s1
        rw [e3, e4] at s2
        have ih1 := equal_of f hk d (by omega) _ _ s1 w
        have ih2 := fields_of f hr d (by omega) as bs (by omega) (by omega) s2 w
        have p1 := part_of hk as off (by omega) w
        have p2 := part_of hk bs off (by omega) w
        have hv : vEqs ((as.drop off).take (k1.length + k2.length)) ((bs.drop off).take (k1.length + k2.length)) = (vEqs ((as.drop off).take k1.length) ((bs.drop off).take k1.length) && vEqs ((as.drop (off + k1.length)).take k2.length) ((bs.drop (off + k1.length)).take k2.length)) := by
          rw [← e3, ← e4, ← e1, ← e2, ← vEqs_append _ _ _ _ (by simp; omega), List.take_append_drop, List.take_append_drop]
        rw [hv]
        simp only [Op.eqFields, if_pos hc.1, Sem.run_bind, hc.2, p1, p2, Result.andThen_ok, ih1]
        cases vEqs ((as.drop off).take k1.length) ((bs.drop off).take k1.length)
        · simp
        · simp [ih2]
      · cases h
    · cases h
end
end

def skEq : SK → SK → Bool
  | .i, .i => true | .b, .b => true | .s, .s => true | _, _ => false
def sksEq : List SK → List SK → Bool
  | a :: r, b :: q => skEq a b && sksEq r q
  | [], [] => true
  | _, _ => false
theorem sksEq_eq : ∀ {a b : List SK}, sksEq a b = true → a = b
  | [], [], _ => rfl
  | a :: r, b :: q, h => by
    simp only [sksEq, Bool.and_eq_true] at h
    rw [sksEq_eq h.2]
    cases a <;> cases b <;> first | rfl | (simp [skEq] at h)
  | [], _ :: _, h => by simp [sksEq] at h
  | _ :: _, [], h => by simp [sksEq] at h
def elook : List (Nat × List SK) → Nat → Option (List SK)
  | [], _ => none
  | (k, v) :: r, n => bif (eqN k n) then some v else elook r n
/-- Types that are told apart cell by cell. -/
structure EqsOk (P : Program) (E : List (Nat × List SK)) : Prop where
  ok : ∀ t ks, elook E t = some ks → eqN' P 60 t = some ks ∧ P.eqGuardType P.depth t = false
def eqsChk (P : Program) : List (Nat × List SK) → Bool
  | [] => true
  | (t, ks) :: r => (match eqN' P 60 t with
    | some ks' => sksEq ks ks'
    | none => false) && !(P.eqGuardType P.depth t) && eqsChk P r
theorem eqsOk_of {P : Program} : ∀ {E : List (Nat × List SK)}, eqsChk P E = true → EqsOk P E
  | [], _ => ⟨fun t ks h => by simp [elook] at h⟩
  | (t, ks) :: r, h => by
    simp only [eqsChk, Bool.and_eq_true, Bool.not_eq_true'] at h
    refine ⟨fun t' ks' h' => ?_⟩
    simp only [elook] at h'
    cases hb : (eqN t t') with
    | false => rw [hb] at h'; exact (eqsOk_of h.2).ok t' ks' h'
    | true =>
      rw [hb] at h'
      have e1 := eqN_true hb
      simp only [cond_true, Option.some.injEq] at h'
      subst e1; subst h'
      obtain ⟨⟨h1, h2⟩, _⟩ := h
      split at h1
      · rename_i ks' he
        rw [sksEq_eq h1]
        exact ⟨he, h2⟩
      · cases h1
end Go.Vg
