/- Contracts of the kit's shelf, as answers. -/
import Derived.Test.YtnapnedfhimikaaDoorVgY
set_option maxRecDepth 4000
set_option linter.all false
set_option linter.unusedVariables false
set_option linter.unusedSimpArgs false
namespace Go.Vg
open Go

/-- A function of which is known what it returns to these values, wherever; the world behind may have new blocks. -/
theorem aval_of_calls {P : Program} {G : Glb} {f : FuncId} {fn : Func} {args : List V} {r : V} {vs0 : Array Value} {v : Value} (hf : P.funcs[f]? = some fn) (hname : (fn.name == "runtime.NumGoroutine") = false) (hb : fn.body.isNone = false)
    (hargs : ∀ (w : World) (F : Nat → Prop) (β : Bt) (vs : Array Value), vs.size = args.length → (∀ (i : Nat) (v : Value) (x : V), vs[i]? = some v → args[i]? = some x → RA w F β [] v x) → vs = vs0)
    (h : ∀ w, Calls P f vs0 w (fun e w' => e = .returned v ∧ Keep (fun _ => False) w w')) (hr : ∀ w F, RD w F v r) : AVal P G f args r := by
  refine ⟨⟨fn, hf, hname, hb⟩, fun w F β vs h1 h2 hown hglob hF hdom => ?_⟩
  rw [hargs w F β vs h1 h2]
  refine (h w).mono ?_
  rintro e w' ⟨rfl, hk⟩
  exact ⟨v, r, [], F, fun _ => none, rfl, rfl, fun _ h => h, fun _ _ h => h, fun b hb => Nat.lt_of_lt_of_le (hF b hb) hk.size, .d _ _ (hr _ _), ⟨fun _ _ h => by simp [olook] at h, fun _ _ _ _ _ h => by simp [olook] at h⟩, fun _ _ => rfl,
    hk.mono fun _ h => h.elim, fun id ent b h => by simp [olook] at h, fun id e0 e h => by simp [olook] at h⟩

theorem CEq.int {k : IntKind} {e e' : IE} (h : e.den = e'.den) : CEq (.int k e) (.int k e') := fun w F v hv => by
  obtain ⟨h1, h2⟩ := RA.of_int (RA.d (β := fun _ => none) (o := []) v _ hv)
  subst h1
  exact .int _ _ _ h.symm h2
theorem CEqL.one {x y : V} (h : CEq x y) : CEqL [x] [y] := ⟨rfl, fun j a b h1 h2 => by
  cases j with
  | zero => simp at h1 h2; subst h1; subst h2; exact h
  | succ j => simp at h1⟩
theorem VEq.int {k : IntKind} {e e' : IE} (h : e.den = e'.den) : VEq (.int k e) (.int k e') := CEqL.one (CEq.int h)

theorem News.map {o : Own} {sz : Nat} {α : Type} {f : α → V} {l : List α} {x : V} (h : velems o x = some (sz, l.map f)) : News o sz f l x :=
  ⟨_, h, by simp, fun i e p he hp => by
    rw [List.getElem?_map, hp] at he
    simp at he; subst he; exact VEq.refl _⟩

/-- Arguments told otherwise. -/
theorem AVal.le {P : Program} {G : Glb} {f : FuncId} {args args' : List V} {r : V} (h : AVal P G f args' r) (hl : LePl [] args args') : AVal P G f args r :=
  ⟨h.1, fun w F β vs h1 h2 h3 h4 h5 h6 => by
    obtain ⟨g1, g2⟩ := LePl.ra (cs := vs) hl h1 h2
    exact h.2 w F β vs g1 g2 h3 h4 h5 h6⟩

/-- Two numbers as arguments. -/
theorem args_two_int {k1 k2 : IntKind} {x y : Int} (w : World) (F : Nat → Prop) (β : Bt) (vs : Array Value) (hl : vs.size = [V.int k1 (.v x), V.int k2 (.v y)].length)
    (h : ∀ (i : Nat) (v : Value) (u : V), vs[i]? = some v → [V.int k1 (.v x), V.int k2 (.v y)][i]? = some u → RA w F β [] v u) : vs = #[.int k1 x, .int k2 y] := by
  have hl2 : vs.size = 2 := by simpa using hl
  have h0 : vs[0]? = some (vs[0]'(by omega)) := Array.getElem?_eq_getElem (by omega)
  have h1 : vs[1]? = some (vs[1]'(by omega)) := Array.getElem?_eq_getElem (by omega)
  have e0 := (RA.of_int (h 0 _ _ h0 rfl)).1
  have e1 := (RA.of_int (h 1 _ _ h1 rfl)).1
  apply Array.ext
  · simpa using hl
  · intro i h1' h2'
    simp at h2'
    match i, h2' with
    | 0, _ => simpa [IE.den] using e0
    | 1, _ => simpa [IE.den] using e1

end Go.Vg
