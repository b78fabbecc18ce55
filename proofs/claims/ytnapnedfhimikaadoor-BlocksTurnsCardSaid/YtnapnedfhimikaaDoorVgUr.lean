/- Code in a round of a range over a function: what is shown of code of a function is so there, too. -/
import Derived.Test.YtnapnedfhimikaaDoorVgU
import Derived.RangeFuncNested
import Derived.OrdersIn
import Derived.TacticsIn
set_option maxRecDepth 4000
set_option linter.all false
set_option linter.unusedVariables false
set_option linter.unusedSimpArgs false
namespace Go.Vg
open Go

/-- A fence that keeps nothing out: for a function's frames, or for a round's. -/
def FR (r : Option Nat) : Fence := { Fence.wide with round := r }

def noDefer (o : Oper) : Bool := match o.op with
  | .defer _ => false
  | _ => true
theorem noDefer_spec {o : Oper} (h : noDefer o = true) (c : Call) : o.op ≠ .defer c := fun e => by simp [noDefer, e] at h

section
variable {P : Program} {r : Option Nat} {n : Nat} {ops : Array Oper} {Q : Exit → Act → World → Prop} {md : Region.Mode}

theorem rowsIn_wide {row : String} {args : Array Value} {w : World} {R : Value → World → Prop} (h : Rows P row args w R) : RowsIn (FR r) n P row args w R := fun c cs _ =>
  let ⟨v, w', q, s⟩ := h c cs
  ⟨v, w', q, (stepsIn_wide (P := P)).2 s⟩
theorem callsIn_fr {f : FuncId} {args : Array Value} {w : World} {R : Ending → World → Prop} (h : Calls P f args w R) : CallsIn (FR r) n P f args w R :=
  have := (callsIn_wide (n := n)).2 h
  this

theorem oper_in {o : Oper} {a : Act} {w : World} {K : Act → World → Prop} (hd : r = none ∨ noDefer o = true) (hQ : ∀ a w, ¬ Q .outgrown a w) (h : o.wp P a w K Q) : o.wpIn (FR r) n P a w K Q := by
  refine ⟨fun _ _ => trivial, ?_⟩
  have e : Oper.semAt (FR r).round a.eval o = execOp a.eval o := by
    rcases hd with rfl | hd
    · rfl
    · exact Oper.semAt_eq _ _ _ (noDefer_spec hd)
  rw [e]
  unfold Oper.wp at h
  generalize (execOp a.eval o).run P w = q at *
  cases q with
  | ok x w' =>
    cases x <;> simp only [Oper.upon, Oper.uponIn] at h ⊢
    case value v => exact h
    case skip => exact h
    case defer d => exact h
    case enter f args =>
      refine ⟨fun hd => by simp [FR, Fence.wide] at hd, callsIn_fr (h.mono fun e w'' he => ?_)⟩
      cases e with
      | returned v => exact he
      | panicked c => exact he
      | outgrown => obtain ⟨a, w, he⟩ := he; exact absurd he (hQ a w)
    case row row args => exact ⟨fun hd => by simp [FR, Fence.wide] at hd, rowsIn_wide h⟩
  | halt x w' => cases x <;> simp only [Oper.upon, Oper.uponIn] at h ⊢ <;> exact h

theorem noOut {o : Oper} {a : Act} {w : World} {X : Prop} (hQ : ∀ a w, ¬ Q .outgrown a w) (h : X ∨ (o.asks P a w ∧ LetsOut Q)) : X :=
  h.resolve_right fun ⟨_, a, w, h⟩ => hQ a w h

theorem wpList_in (hQ : ∀ a w, ¬ Q .outgrown a w) : ∀ (l : List Oper) (a : Act) (w : World), (r = none ∨ l.all noDefer = true) → wpList P ops Q l a w → wpListIn (FR r) n P ops Q l a w
  | [], _, _, _, h => h
  | o :: l, a, w, hd, h => by
    have hd1 : r = none ∨ noDefer o = true := hd.imp_right fun h => by simp at h; exact h.1
    have hd2 : r = none ∨ l.all noDefer = true := hd.imp_right fun h => by simp at h; simpa using h.2
    simp only [wpList] at h
    simp only [wpListIn]
    split at h
    · rename_i hw
      rw [if_pos hw]
      exact oper_in hd1 hQ (Oper.wp_mono (fun a w => wpList_in hQ l a w hd2) (noOut hQ h))
    · rename_i hw
      rw [if_neg hw]
      exact ⟨fun _ _ => trivial, wpList_in hQ l _ w hd2 h⟩

theorem wpAny_in (hQ : ∀ a w, ¬ Q .outgrown a w) (hd : r = none ∨ ops.toList.all noDefer = true) : ∀ (fuel : Nat) (ls : Array Bool) (a : Act) (w : World), wpAny P md ops Q fuel ls a w → wpAnyIn (FR r) n P md ops Q fuel ls a w
  | 0, _, _, _, h => h
  | fuel + 1, ls, a, w, h => by
    refine ⟨h.1, fun i hi => ?_⟩
    have h := h.2 i hi
    unfold wpOp at h
    unfold wpOpIn
    cases ho : ops[i]? with
    | none => rw [ho] at h; exact wpAny_in hQ hd fuel _ a w h
    | some o =>
      rw [ho] at h
      have hdo : r = none ∨ noDefer o = true := hd.imp_right fun h => List.all_eq_true.1 h o (by
        have := Array.mem_of_getElem? ho
        simpa using this)
      simp only at h ⊢
      split at h
      · rename_i hw
        rw [if_pos hw]
        exact oper_in hdo hQ (Oper.wp_mono (fun a w => wpAny_in hQ hd fuel _ a w) (noOut hQ h))
      · rename_i hw
        rw [if_neg hw]
        exact ⟨fun _ _ => trivial, wpAny_in hQ hd fuel _ _ w h⟩
end
end Go.Vg
