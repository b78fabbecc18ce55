/- A range over a function, from an answer that is worked out. -/
import Derived.Test.YtnapnedfhimikaaDoorVhP
set_option maxRecDepth 4000
set_option linter.all false
set_option linter.unusedVariables false
set_option linter.unusedSimpArgs false
namespace Go.Vg
open Go

/-- An empty list that has room. -/
def growF (n : Int) : Option (List Int) := if 0 ≤ n ∧ n ≤ 140737488355328 then some [] else none
theorem LePl.refl (o : Own) : ∀ l : List V, LePl o l l
  | [] => .nil
  | x :: r => .cons _ _ _ _ (.same x) (LePl.refl o r)
/-- Round after round; a round may end the function. -/
def foldR {E X R A : Type} (step : E → X → Option (X ⊕ R)) (done : X → Option A) (ret : R → Option A) : List E → X → Option A
  | [], x => done x
  | e :: l, x => match step e x with
    | none => none
    | some (.inl x') => foldR step done ret l x'
    | some (.inr q) => ret q
def isL {X R : Type} : X ⊕ R → Bool
  | .inl _ => true
  | .inr _ => false
def sumO {X R : Type} (oI : X → Own) (oR : R → Own) : X ⊕ R → Own
  | .inl x => oI x
  | .inr q => oR q

/-- So many parts. -/
def chunkN {α : Type} (n : Nat) (l : List α) : List (List α) := (List.range ((l.length + n - 1) / n)).map fun k => (l.drop (k * n)).take n
def chunkF {α : Type} (l : List α) (n : Int) : Option (List (List α)) := if 1 ≤ n ∧ n ≤ 140737488355328 ∧ l.length ≤ 140737488355328 then some (chunkN n.toNat l) else none


section
variable {P : Program} {c : Ctx} {s : St} {E X R A : Type} {r : A} {Q : Post} {g : Operand} {ps : Array Tmp} {assign body : Code}

theorem den_fold {step : E → X → Option (X ⊕ R)} {done : X → Option A} {ret : R → Option A} {ES : List E} {x0 : X} (h : foldR step done ret ES x0 = some r) (encE : E → List V) (S : X → St) (SR : R → St) (gf : FuncId) (caps : List V)
    (hg : res s.e [] (evalO c s.e g) = .fn gf [] caps) (hd : isDatal caps = true) (hseq : SeqA P gf caps (ES.map encE)) (hlen : ∀ e, (encE e).length = ps.size ∧ isDatal (encE e) = true) (hs : leSt s (S x0))
    (hr : ∀ e x y, step e x = some y → RoundP P c assign body ps.toList (S x) (encE e) (fun s' => ∃ x', y = .inl x' ∧ leSt s' (S x')) (fun s' => ∃ q, y = .inr q ∧ leSt s' (SR q)))
    (hret : ∀ q, ret q = some r → Q .ret (SR q)) (hq : ∀ x, done x = some r → Q .normal (S x)) : RangeP P c g ps assign body Q s := by
  refine .mk S (fun k x => foldR step done ret (ES.drop k) x = some r) gf caps (ES.map encE) x0 hg hd hseq (by simpa using h) hs (fun k es x hes hx => ?_) (fun x hx => ?_)
  · rw [List.getElem?_map, Option.map_eq_some_iff] at hes
    obtain ⟨e, he, rfl⟩ := hes
    refine ⟨(hlen e).1, (hlen e).2, ?_⟩
    have hdr : ES.drop k = e :: ES.drop (k + 1) := by
      have hk := (List.getElem?_eq_some_iff.1 he)
      rw [← hk.2]; exact List.drop_eq_getElem_cons hk.1
    rw [hdr] at hx
    simp only [foldR] at hx
    cases hst : step e x with
    | none => rw [hst] at hx; cases hx
    | some y =>
      rw [hst] at hx
      obtain ⟨id, ops, s1, outs, args, oc, o1, b, g1, g2, g3, g4, g5, g6, g7, g8, g9⟩ := hr e x y hst
      refine .mk id ops s1 outs args oc o1 b g1 g2 g3 g4 g5 g6 g7 g8 ?_
      cases b with
      | true =>
        obtain ⟨x', rfl, hle⟩ := g9
        exact ⟨x', hx, hle⟩
      | false =>
        obtain ⟨q, rfl, hle⟩ := g9
        exact ⟨SR q, hle, hret q hx⟩
  · rw [List.length_map, List.drop_length] at hx
    exact hq x hx

/-- One round. -/
theorem den_round {y : X ⊕ R} {S : X → St} {SR : R → St} {es : List V} {id : Nat} {ops : List Oper} (s1 : St) (outs : Outs) (args : List V) (oc : Own) (oI : X → Own) (oR : R → Own)
    (hnd : ops.all noDefer = true) (hpure : runPure c ops (putPs c ps.toList es s) = some s1) (hl : LePl oc (V.subl (srn (kap (insO outs))) (slotsV 0 c.N s1.e)) args) (hcI : ∀ x, ownOk c outs [] s oc (oI x) = true) (hcR : ∀ q, ownOk c outs [] s oc (oR q) = true)
    (hs : subN (oids (ocOf (insO outs) s (srn (kap (insO outs))))) (oids oc) = true) (ho : leO oc (ocOf (insO outs) s (srn (kap (insO outs)))) oc)
    (hA : RoundA P c.G body args oc (isL y) (sumO oI oR y))
    (hkI : ∀ x, leSt (s.after ⟨.bool (.lit true), [], twice (usOf outs (oI x) (srn (iot outs)))⟩) (S x)) (hkR : ∀ q, leSt (s.after ⟨.bool (.lit false), [], twice (usOf outs (oR q) (srn (iot outs)))⟩) (SR q)) :
    RoundP P c (.region id ⟨ops⟩ false) body ps.toList s es (fun s' => ∃ x', y = .inl x' ∧ leSt s' (S x')) (fun s' => ∃ q, y = .inr q ∧ leSt s' (SR q)) := by
  cases y with
  | inl x => exact .mk id ops s1 outs args oc (oI x) true rfl hnd hpure hl (hcI x) hs ho hA ⟨x, rfl, hkI x⟩
  | inr q => exact .mk id ops s1 outs args oc (oR q) false rfl hnd hpure hl (hcR q) hs ho hA ⟨q, rfl, hkR q⟩
end
end Go.Vg
