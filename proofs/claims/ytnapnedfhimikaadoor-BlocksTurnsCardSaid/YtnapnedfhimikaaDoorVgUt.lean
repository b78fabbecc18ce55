/- A range over a function: what it is done by. -/
import Derived.Test.YtnapnedfhimikaaDoorVgUs
set_option maxRecDepth 4000
set_option linter.all false
set_option linter.unusedVariables false
set_option linter.unusedSimpArgs false
namespace Go.Vg
open Go Go.RowKit

/-- What an iterator does: it hands these over, one after another, till it is told to stop. -/
def SeqA (P : Program) (gf : FuncId) (caps : List V) (ES : List (List V)) : Prop :=
  (∀ args w, (callFunc gf args).run P w = .ok (.enter gf args) w) ∧
  ∀ (w : World) (F : Nat → Prop) (lb : Array Value), lb.size = caps.length → (∀ (i : Nat) (v : Value) (x : V), lb[i]? = some v → caps[i]? = some x → RD w F v x) →
  ∀ (l : Nat) (J : Nat → World → Prop) (Jx : World → Prop),
    (∀ k W W', J k W → Keep (fun _ => False) W W' → J k W') → (∀ W W', Jx W → Keep (fun _ => False) W W' → Jx W') →
    (∀ k W, J k W → w.heap.size ≤ W.heap.size ∧ ∀ b, b < w.heap.size → ¬ F b → W.heap[b]? = w.heap[b]?) →
    (∀ k es (args : Array Value) W, ES[k]? = some es → J k W → args.size = es.length → (∀ F1 : Nat → Prop, (∀ b, b < w.heap.size → F1 b → F b) → ∀ (i : Nat) (v : Value) (x : V), args[i]? = some v → es[i]? = some x → RD W F1 v x) →
      ∀ n, YieldAt Fence.wide n P l args W fun e W' => (e = .returned (.bool true) ∧ J (k + 1) W') ∨ (e = .returned (.bool false) ∧ Jx W')) →
    J 0 w → Calls P gf (#[.func (.yield l) #[] #[]] ++ lb) w fun e W' => (∃ v, e = .returned v) ∧ (J ES.length W' ∨ Jx W')

/-- A round's body, walked: by which answer it is left. -/
def RC (P : Program) (n l : Nat) (body : Code) (vs : Array Value) (w : World) (R : Ending → World → Prop) : Prop :=
  body.wpIn (FR (some l)) n P (fun e _ w' => match e with
    | .normal => R (.returned (.bool true)) w'
    | .ret => R (.returned (.bool false)) w'
    | _ => False) { tmps := vs, defers := [] } w
theorem RC.mono {P : Program} {n l : Nat} {body : Code} {vs : Array Value} {w : World} {R R' : Ending → World → Prop} (h : RC P n l body vs w R) (hr : ∀ e w, R e w → R' e w) : RC P n l body vs w R' :=
  wpIn_mono h fun e _ w he => by cases e <;> first | exact hr _ _ he | exact he
/-- A round: what is handed to it, what comes back; whether it goes on. -/
def RoundA (P : Program) (G : Glb) (body : Code) (args : List V) (oc : Own) (b : Bool) (o1 : Own) : Prop :=
  ∀ (n l : Nat) (w : World) (vs : Array Value) (F : Nat → Prop) (β : Bt), vs.size = args.length → (∀ (i : Nat) (v : Value) (x : V), vs[i]? = some v → args[i]? = some x → RA w F β oc v x) → OwnOk w F β oc → GlbOk G w F →
    (∀ b, F b → b < w.heap.size) → (∀ id, olook oc id = none → β id = none) →
    RC P n l body vs w (fun e w' => ∃ v r' o' F' β', e = .returned v ∧ (r' = .bool (.lit b) ∧ o' = o1) ∧ (∀ b, F b → F' b) ∧ (∀ b, b < w.heap.size → F' b → F b) ∧ (∀ b, F' b → b < w'.heap.size) ∧
      RA w' F' β' o' v r' ∧ OwnOk w' F' β' o' ∧ (∀ id, olook o' id = none → β' id = none) ∧ Keep (fun b => ∃ id ent, olook oc id = some ent ∧ β id = some b) w w' ∧
      (∀ id ent b, olook o' id = some ent → β' id = some b → w.heap.size ≤ b ∨ ∃ id' ent', olook oc id' = some ent' ∧ β id' = some b) ∧
      (∀ id ent0 ent, olook oc id = some ent0 → olook o' id = some ent → pinned ent0 = true → Same w β oc w' β' o' id id))

/-- Slots that a round is begun with. -/
def putPs (c : Ctx) : List Tmp → List V → St → St
  | t :: ps, v :: vs, s => putPs c ps vs (putO c.N s (some t) v)
  | _, _, s => s
def runPure (c : Ctx) : List Oper → St → Option St
  | [], s => some s
  | o :: r, s => match o.guard with
    | none => match pureV c s.e s.o [] o.op with
      | some v => runPure c r (putO c.N s o.dst v)
      | none => none
    | some _ => none
def unOpt : V → V
  | .opt _ _ _ => .junk
  | .nb _ => .junk
  | x => x
def slotsV : Nat → Nat → Env → List V
  | _, 0, _ => []
  | i, n + 1, e => unOpt (look e i) :: slotsV (i + 1) n e

inductive RoundP (P : Program) (c : Ctx) (assign body : Code) (ps : List Tmp) (s : St) (es : List V) (kn kr : St → Prop) : Prop
  | mk (id : Nat) (ops : List Oper) (s1 : St) (outs : Outs) (args : List V) (oc o1 : Own) (b : Bool) (hasg : assign = .region id ⟨ops⟩ false) (hnd : ops.all noDefer = true) (hpure : runPure c ops (putPs c ps es s) = some s1)
      (hl : LePl oc (V.subl (srn (kap (insO outs))) (slotsV 0 c.N s1.e)) args) (hc : ownOk c outs [] s oc o1 = true) (hs : subN (oids (ocOf (insO outs) s (srn (kap (insO outs))))) (oids oc) = true) (ho : leO oc (ocOf (insO outs) s (srn (kap (insO outs)))) oc)
      (hA : RoundA P c.G body args oc b o1)
      (hk : cnd b (fun _ => kn (s.after ⟨.bool (.lit b), [], twice (usOf outs o1 (srn (iot outs)))⟩)) (fun _ => kr (s.after ⟨.bool (.lit b), [], twice (usOf outs o1 (srn (iot outs)))⟩))) : RoundP P c assign body ps s es kn kr

inductive RangeP (P : Program) (c : Ctx) (g : Operand) (ps : Array Tmp) (assign body : Code) (Q : Post) (s : St) : Prop
  | mk {X : Type} (S : X → St) (φ : Nat → X → Prop) (gf : FuncId) (caps : List V) (ES : List (List V)) (x0 : X) (hg : res s.e [] (evalO c s.e g) = .fn gf [] caps) (hd : isDatal caps = true) (hseq : SeqA P gf caps ES) (h0 : φ 0 x0) (hs : leSt s (S x0))
      (hr : ∀ k es x, ES[k]? = some es → φ k x → es.length = ps.size ∧ isDatal es = true ∧ RoundP P c assign body ps.toList (S x) es (fun s' => ∃ x', φ (k + 1) x' ∧ leSt s' (S x')) (fun s' => ∃ s2, leSt s' s2 ∧ Q .ret s2))
      (hq : ∀ x, φ ES.length x → Q .normal (S x)) : RangeP P c g ps assign body Q s

def dmk (D : Nat) : Deferred := { target := .collected D, args := #[] }
def DOk (z : From) (d : List Deferred) (pr : Nat → Obj → Prop) (a : Act) : Prop := ∃ Ds : List Nat, a.defers = Ds.map dmk ++ d ∧ Ds.Nodup ∧ ∀ D, D ∈ Ds → pr D (.deferred (some [])) ∧ z.w.heap.size ≤ D
def QS (P : Program) (c : Ctx) (z : From) (d : List Deferred) (Q : Post) (e : Exit) (a : Act) (w : World) : Prop :=
  match e with
  | .panic _ => False
  | .outgrown => False
  | e => ∃ pr, DOk z d pr a ∧ ∃ m F β s, Q e s ∧ Rl P c (z.wt m pr) F β s a.tmps w

section
variable {P : Program} {c : Ctx} {z : From} {F : Nat → Prop} {β : Bt} {s : St} {tm : Array Value} {w : World}

theorem putPs_o : ∀ (ps : List Tmp) (es : List V) (s : St), (putPs c ps es s).o = s.o
  | [], es, s => by cases es <;> rfl
  | t :: ps, [], s => rfl
  | t :: ps, v :: es, s => by
    rw [putPs, putPs_o]
    simp only [putO]
    cases (ltN t c.N) <;> rfl
theorem runPure_o : ∀ (l : List Oper) (s s' : St), runPure c l s = some s' → s'.o = s.o
  | [], s, s', h => by cases h; rfl
  | o :: r, s, s', h => by
    simp only [runPure] at h
    split at h
    · split at h
      · rw [runPure_o r _ _ h]
        cases o.dst with
        | none => rfl
        | some d => simp only [putO]; cases (ltN d c.N) <;> rfl
      · cases h
    · cases h
theorem putPs_rl : ∀ (ps : List Tmp) (es : List V) (us : List Value) {s : St} {tm : Array Value}, Rl P c z F β s tm w → us.length = es.length → (∀ (i : Nat) (v : Value) (x : V), us[i]? = some v → es[i]? = some x → RD w F v x) →
    Rl P c z F β (putPs c ps es s) ((ps.zip us).foldl (fun t q => t.setIfInBounds q.1 q.2) tm) w
  | [], es, us, s, tm, hr, _, _ => by cases es <;> exact hr
  | t :: ps, [], us, s, tm, hr, hl, _ => by cases us <;> first | exact hr | simp at hl
  | t :: ps, v :: es, [], s, tm, hr, hl, _ => by simp at hl
  | t :: ps, v :: es, u :: us, s, tm, hr, hl, h => by
    have h1 := hr.put (some t) (.d u v (h 0 u v rfl rfl)) { tmps := tm, defers := [] } rfl
    simp only [List.zip_cons_cons, List.foldl_cons, putPs]
    refine putPs_rl ps es us h1 (by simpa using hl) (fun i v' x hi hx => h (i + 1) v' x (by simpa using hi) (by simpa using hx))
theorem runPure_run {ops : Array Oper} {Q : Exit → Act → World → Prop} {s' : St} : ∀ (l : List Oper) {s : St} {a : Act}, Rl P c z F β s a.tmps w → runPure c l s = some s' → (∀ a', a'.defers = a.defers → Rl P c z F β s' a'.tmps w → Q .normal a' w) → wpList P ops Q l a w
  | [], s, a, hr, h, hq => by cases h; exact hq a rfl hr
  | o :: r, s, a, hr, h, hq => by
    simp only [runPure] at h
    split at h
    · rename_i hg
      split at h
      · rename_i v hv
        obtain ⟨val, hy, hra⟩ := pure_run rfl hr.toRel (by simp) hv
        simp only [wpList]
        rw [if_pos (wanted_none hg _)]
        refine .inl ?_
        unfold Oper.wp
        rw [show (execOp a.eval o).run P w = .ok (.value val) w from hy]
        exact runPure_run r (hr.put o.dst hra a rfl) h fun a' hd hr' => hq a' (hd.trans (put_defers _ _ _)) hr'
      · cases h
    · cases h
theorem slotsV_get : ∀ (n i : Nat) (e : Env) (j : Nat) (x : V), (slotsV i n e)[j]? = some x → x = unOpt (look e (i + j))
  | 0, i, e, j, x, h => by simp [slotsV] at h
  | n + 1, i, e, 0, x, h => by simp [slotsV] at h; rw [← h]; rfl
  | n + 1, i, e, j + 1, x, h => by
    simp only [slotsV, List.getElem?_cons_succ] at h
    rw [slotsV_get n (i + 1) e j x h]
    congr 2; omega
theorem slotsV_len : ∀ (n i : Nat) (e : Env), (slotsV i n e).length = n
  | 0, _, _ => rfl
  | n + 1, i, e => by simp [slotsV, slotsV_len n]
theorem slots_ra (hr : Rl P c z F β s tm w) (i : Nat) (u : Value) (x : V) (hi : tm.toList[i]? = some u) (hx : (slotsV 0 c.N s.e)[i]? = some x) : RA w F β s.o u x := by
  have h := hr.env i
  have e : tm.getD i undef = u := by
    rw [Array.getElem?_toList] at hi
    simp [hi]
  rw [e] at h
  rw [slotsV_get _ _ _ _ _ hx, Nat.zero_add]
  cases hl : look s.e i with
  | opt t b v => exact .junk _
  | nb b => exact .junk _
  | _ => rw [hl] at h; exact h
end
end Go.Vg
