/- The own layer, part A7: soundness of the conditions of code. -/
import Derived.Test.YtpdklmagncfhaaaDoorA6
import Derived.Scope
import Derived.Laws.Sem
import Derived.KernelRfl
import Derived.Deep.Slices
import Derived.OpenShut
import Derived.ChangeSame
import Derived.Below
set_option maxRecDepth 4000
set_option linter.all false
set_option linter.unusedVariables false
set_option linter.unusedSimpArgs false
/- The conditions of code, and of functions. -/
namespace Go.Vg
open Go

inductive LoopP (body : St → (St → Prop) → Prop) (s : St) : Prop
  | mk {α : Type} (S : α → St) (φ : α → Prop) (μ : α → Nat) (a0 : α) (h0 : φ a0) (hs : leSt s (S a0)) (hb : ∀ a, φ a → body (S a) (fun s' => ∃ a', φ a' ∧ μ a' < μ a ∧ leSt s' (S a'))) : LoopP body s
inductive SeqP (run : (St → Prop) → Prop) (k : St → Prop) : Prop
  | dup (h : run k) : SeqP run k
  | cut {α : Type} (S : α → St) (φ : α → Prop) (h : run (fun s' => ∃ a, φ a ∧ leSt s' (S a))) (hk : ∀ a, φ a → k (S a)) : SeqP run k

def thenP (k : St → Prop) (Q : Post) : Post := fun e s =>
  match e with
  | .normal => k s
  | e => Q e s
def blockP (id : Nat) (Q : Post) : Post := fun e s =>
  match e with
  | .exit i => bif (eqN i id) then Q .normal s else Q (.exit i) s
  | e => Q e s
def noGotoP (Q : Post) : Post := fun e s =>
  match e with
  | .goto _ => False
  | e => Q e s
def panics : List Oper → Bool
  | [] => false
  | o :: r => (match o.op with
    | .panic _ => true
    | _ => false) || panics r
-- In how many places code comes to its end, or to an exit.
mutual
def ways : Code → Nat
  | .skip => 1
  | .label _ => 1
  | .region _ ops _ => bif panics ops.toList then 0 else 1
  | .seq a b => ways a * ways b
  | .cond _ a b => ways a + ways b
  | .block id a => ways a + exitsTo id a
  | .scope a => ways a
  | _ => 0
def exitsTo (id : Nat) : Code → Nat
  | .exit i => bif (eqN i id) then 1 else 0
  | .seq a b => exitsTo id a + exitsTo id b
  | .cond _ a b => exitsTo id a + exitsTo id b
  | .block _ a => exitsTo id a
  | .loop a => exitsTo id a
  | .scope a => exitsTo id a
  | _ => 0
end
-- Loops, and conditions that meet again, are where the way is cut.
mutual
def ends : Code → Nat
  | .skip => 1
  | .label _ => 1
  | .region _ ops _ => bif panics ops.toList then 0 else 1
  | .seq a b => bif (eqN (ends a) 0) then 0 else ends b
  | .cond _ a b => ends a + ends b
  | .block id a => ends a + exitsTo id a
  | .scope a => ends a
  | _ => 0
def hasLoop : Code → Bool
  | .loop _ => true
  | .rangeFunc _ _ _ _ => true
  | .seq a b => hasLoop a || hasLoop b
  | .cond _ a b => hasLoop a || hasLoop b
  | .block _ a => hasLoop a
  | .scope a => hasLoop a
  | _ => false
end
def lastLoop : Code → Bool
  | .seq _ b => lastLoop b
  | .cond _ a b => lastLoop a || lastLoop b
  | .block _ a => hasLoop a
  | .scope a => lastLoop a
  | .rangeFunc _ _ _ _ => true
  | _ => false
def guarded : List Oper → Bool
  | [] => false
  | o :: r => (match o.guard with
    | none => false
    | some _ => match o.op with
      | .call ⟨.value _, _, _⟩ => true
      | .indexAddr _ _ _ => true
      | .slice _ _ _ _ _ => true
      | _ => false) || guarded r
def lastGuarded : Code → Bool
  | .seq _ b => lastGuarded b
  | .region _ ops _ => guarded ops.toList
  | _ => false
/-- Does it end with operations in any order? -/
def lastDraw : Code → Bool
  | .seq _ b => lastDraw b
  | .region _ _ d => d
  | _ => false
def startsCond : Code → Bool
  | .seq a _ => startsCond a
  | .cond _ _ _ => true
  | .ret => true
  | _ => false
def splits (c : Code) : Bool := (ltN 1 (ends c)) || lastLoop c

def vc (P : Program) (c : Ctx) : Code → Post → St → Prop
  | .skip, Q, s => Q .normal s
  | .label _, Q, s => Q .normal s
  | .region _ ops draw, Q, s => bif draw then runDraw P c ops.toList s (fun s' => Q .normal ⟨s'.e, s'.o, []⟩) else runOps P c ops.toList ops.toList s (fun s' => Q .normal ⟨s'.e, s'.o, []⟩)
  | .seq a b, Q, s => bif splits a || (lastGuarded a && !startsCond b) || lastDraw a then SeqP (fun k => vc P c a (thenP k Q) s) (fun s' => vc P c b Q s') else vc P c a (thenP (fun s' => vc P c b Q s') Q) s
  | .cond x a b, Q, s => match x with
    | .tmp t => match look s.e t with
      | .bool (.lit true) => vc P c a Q s
      | .bool (.lit false) => vc P c b Q s
      | .bool q => Branch q (fun _ => vc P c a Q (setR s t (.bool (.lit true)))) (fun _ => vc P c b Q (setR s t (.bool (.lit false))))
      | _ => False
    | .const (.bool true) => vc P c a Q s
    | .const (.bool false) => vc P c b Q s
    | _ => False
  | .block id a, Q, s => vc P c a (blockP id Q) s
  | .loop a, Q, s => LoopP (fun s' K => vc P c a (thenP K Q) s') s
  | .exit id, Q, s => Q (.exit id) s
  | .scope a, Q, s => vc P c a (noGotoP Q) s
  | .goto l, Q, s => Q (.goto l) s
  | .ret, Q, s => Q .ret s
  | .rangeFunc g ps asg body, Q, s => RangeP P c g ps asg body Q s
  | .refuse _, _, _ => False

/-- Code that may stand in a round. -/
def plainC : Code → Bool
  | .skip => true
  | .label _ => true
  | .region _ ops _ => ops.toList.all noDefer
  | .seq a b => plainC a && plainC b
  | .cond _ a b => plainC a && plainC b
  | .block _ a => plainC a
  | .loop a => plainC a
  | .exit _ => true
  | .goto _ => true
  | .ret => true
  | _ => false

section
variable {P : Program} {c : Ctx} {z : From} {d : List Deferred} {r : Option Nat} {n : Nat}

theorem min_of {p : Nat → Prop} (h : ∃ n, p n) : ∃ n, p n ∧ ∀ m, p m → n ≤ m := by
  obtain ⟨n, hn⟩ := h
  induction n using Nat.strongRecOn with
  | _ n ih =>
    by_cases hx : ∃ m, m < n ∧ p m
    · obtain ⟨m, h1, h2⟩ := hx
      exact ih m h1 h2
    · exact ⟨n, hn, fun m hm => Nat.le_of_not_lt fun hlt => hx ⟨m, hlt, hm⟩⟩

theorem QS_thenP {k : St → Prop} {Q : Post} {next : Act → World → Prop} (hn : ∀ m pr F β s a w, k s → Rl P c (z.wt m pr) F β s a.tmps w → DOk z d pr a → next a w) (e : Exit) (a : Act) (w : World) (h : QS P c z d (thenP k Q) e a w) : Exit.then next (QS P c z d Q) e a w := by
  cases e with
  | normal => obtain ⟨pr, h1, m, F, β, s, h2, h3⟩ := h; exact hn m pr F β s a w h2 h3 h1
  | exit i => exact h
  | goto l => exact h
  | ret => exact h
  | panic ch => exact h
  | outgrown => exact h
theorem QS_out {Q : Post} (a : Act) (w : World) : ¬ QS P c z d Q .outgrown a w := fun h => h
theorem DOk.defers {pr : Nat → Obj → Prop} {a a' : Act} (h : DOk z d pr a) (e : a'.defers = a.defers) : DOk z d pr a' := by
  obtain ⟨h0, Ds, h1, h2⟩ := h
  exact ⟨h0, Ds, e.trans h1, h2⟩

theorem vc_sound (hm : P.follows .mixedOrders = true) : ∀ (code : Code) {Q : Post} {s : St} {a : Act} {w : World} {F : Nat → Prop} {β : Bt} {m : Mark} {pr : Nat → Obj → Prop}, (r = none ∨ plainC code = true) → vc P c code Q s → Rl P c (z.wt m pr) F β s a.tmps w → DOk z d pr a → code.wpIn (FR r) n P (QS P c z d Q) a w := by
  intro code
  induction code with
  | skip => intro Q s a w F β m pr hp h hr hd; exact wpIn_skip ⟨pr, hd, m, F, β, s, h, hr⟩
  | label l => intro Q s a w F β m pr hp h hr hd; exact wpIn_label ⟨pr, hd, m, F, β, s, h, hr⟩
  | region id ops draw =>
    intro Q s a w F β m pr hp h hr hd
    have hnd : r = none ∨ ops.toList.all noDefer = true := hp
    cases draw with
    | true =>
      simp only [vc, cond_true] at h
      exact wpIn_region_any hm (wpAny_in QS_out hnd _ _ _ _ (runDraw_any (z := z.wt m pr) (fun _ _ _ h => h) (fun s' m' F' β' a' w' hk hr' hd' => ⟨pr, hd.defers hd', ⟨w', F', β'⟩, F', β', _, hk, hr'.remark⟩) hr rfl h))
    | false =>
      simp only [vc, cond_false] at h
      exact wpIn_region_list (wpList_in QS_out _ _ _ hnd (runOps_sound _ h hr fun s' F' β' a' w' hk hr' hd' => ⟨pr, hd.defers hd', ⟨w', F', β'⟩, F', β', _, hk, hr'.remark⟩))
  | seq x y ihx ihy =>
    intro Q s a w F β m pr hp h hr hd
    have hpx : r = none ∨ plainC x = true := hp.imp_right fun h => by simp only [plainC, Bool.and_eq_true] at h; exact h.1
    have hpy : r = none ∨ plainC y = true := hp.imp_right fun h => by simp only [plainC, Bool.and_eq_true] at h; exact h.2
    simp only [vc] at h
    cases hs : (splits x || (lastGuarded x && !startsCond y) || lastDraw x) with
    | false =>
      rw [hs] at h
      exact wpIn_seq (wpIn_mono (ihx hpx h hr hd) (QS_thenP fun m pr F β s a w h1 h2 h3 => ihy hpy h1 h2 h3))
    | true =>
      rw [hs] at h
      simp only [cond_true] at h
      cases h with
      | dup h => exact wpIn_seq (wpIn_mono (ihx hpx h hr hd) (QS_thenP fun m pr F β s a w h1 h2 h3 => ihy hpy h1 h2 h3))
      | cut S φ h hk => exact wpIn_seq (wpIn_mono (ihx hpx h hr hd) (QS_thenP fun m pr F β s a w h1 h2 h3 => by
          obtain ⟨x, hx, hle⟩ := h1
          obtain ⟨m', F', β', hr'⟩ := leSt_sound hle h2
          exact ihy hpy (hk x hx) (show Rl P c (z.wt m' pr) F' β' (S x) a.tmps w from hr') h3))
  | cond x p q ihp ihq =>
    intro Q s a w F β m pr hp h hr hd
    have hpx : r = none ∨ plainC p = true := hp.imp_right fun h => by simp only [plainC, Bool.and_eq_true] at h; exact h.1
    have hpy : r = none ∨ plainC q = true := hp.imp_right fun h => by simp only [plainC, Bool.and_eq_true] at h; exact h.2
    simp only [vc] at h
    split at h
    · rename_i t
      have hev : a.eval (.tmp t) = a.tmps.getD t undef := by simp [Act.eval]
      have he := hr.env t
      split at h
      · rename_i hl
        rw [hl] at he
        exact wpIn_cond_true (hev.trans (RA.of_bool he)) (ihp hpx h hr hd)
      · rename_i hl
        rw [hl] at he
        exact wpIn_cond_false (hev.trans (RA.of_bool he)) (ihq hpy h hr hd)
      · rename_i b hb1 hb2 hl
        rw [hl] at he
        obtain ⟨h1, h2⟩ := h
        have hb := hev.trans (RA.of_bool he)
        refine wpIn_cond_split hb (fun e => ihp hpx (h1 e) (hr.setLit hl e) hd) (fun e => ihq hpy (h2 e) (hr.setLit hl e) hd)
      · exact h.elim
    · exact wpIn_cond_true rfl (ihp hpx h hr hd)
    · exact wpIn_cond_false rfl (ihq hpy h hr hd)
    · exact h.elim
  | block id x ih =>
    intro Q s a w F β m pr hp h hr hd
    refine wpIn_block (wpIn_mono (ih (Q := blockP id Q) hp h hr hd) fun e a w he => ?_)
    cases e with
    | exit i =>
      obtain ⟨pr, h1, m, F, β, s, h2, h3⟩ := he
      simp only [blockP] at h2
      simp only [Exit.inBlock]
      cases hb : (eqN i id) with
      | true =>
        rw [hb] at h2
        have := eqN_true hb
        rw [if_pos this]
        exact ⟨pr, h1, m, F, β, s, h2, h3⟩
      | false =>
        rw [hb] at h2
        rw [if_neg (fun e => by subst e; simp at hb)]
        exact ⟨pr, h1, m, F, β, s, h2, h3⟩
    | _ => exact he
  | loop x ih =>
    intro Q s a w F β m pr hp h hr hd
    obtain ⟨S, φ, μ, a0, h0, hs, hb⟩ := h
    let I : Nat → Act → World → Prop := fun n a w => ∃ pr, DOk z d pr a ∧ ∃ x, φ x ∧ μ x = n ∧ ∃ m F β, Rl P c (z.wt m pr) F β (S x) a.tmps w
    have : ∃ n, I n a w := by
      obtain ⟨m', F', β', hr'⟩ := leSt_sound hs hr
      exact ⟨μ a0, pr, hd, a0, h0, rfl, m', F', β', hr'⟩
    refine wpIn_loop (fun a w => ∃ n, I n a w) (fun a w => by classical exact if h : ∃ n, I n a w then Classical.choose (min_of h) else 0) this fun a w hI => ?_
    have hmin := (Classical.choose_spec (min_of hI)).1
    simp only [hI, dif_pos]
    generalize hn : Classical.choose (min_of hI) = n at hmin
    obtain ⟨pr', hd', x, hx, hxn, m', F', β', hr'⟩ := hmin
    refine wpIn_mono (ih hp (hb x hx) hr' hd') fun e a' w' he => ?_
    refine QS_thenP (fun m2 pr2 F2 β2 s2 a2 w2 h1 h2 h3 => ?_) e a' w' he
    obtain ⟨x', g1, g2, g3⟩ := h1
    obtain ⟨m3, F3, β3, hr3⟩ := leSt_sound g3 h2
    have hI' : ∃ n, I n a2 w2 := ⟨μ x', pr2, h3, x', g1, rfl, m3, F3, β3, hr3⟩
    refine ⟨hI', ?_⟩
    simp only [hI', dif_pos]
    exact Nat.lt_of_le_of_lt ((Classical.choose_spec (min_of hI')).2 _ ⟨pr2, h3, x', g1, rfl, m3, F3, β3, hr3⟩) (by omega)
  | rangeFunc f ps x y ihx ihy =>
    intro Q s a w F β m pr hp h hr hd
    rcases hp with rfl | hp
    · exact rangeP_sound h hr hd
    · simp [plainC] at hp
  | exit id => intro Q s a w F β m pr hp h hr hd; exact wpIn_exit ⟨pr, hd, m, F, β, s, h, hr⟩
  | scope x ih =>
    intro Q s a w F β m pr hp h hr hd
    rcases hp with rfl | hp
    · refine (wpIn_wide (n := n)).2 (wp_scope_straight (wp_mono ((wpIn_wide (n := n)).1 (ih (Q := noGotoP Q) (.inl rfl) h hr hd)) fun e a w he => ?_))
      cases e with
      | goto l => obtain ⟨pr, h1, m, F, β, s, h2, h3⟩ := he; exact h2.elim
      | _ => exact he
    · simp [plainC] at hp
  | goto l => intro Q s a w F β m pr hp h hr hd; exact wpIn_goto ⟨pr, hd, m, F, β, s, h, hr⟩
  | ret => intro Q s a w F β m pr hp h hr hd; exact wpIn_ret ⟨pr, hd, m, F, β, s, h, hr⟩
  | refuse why => intro Q s a w F β m pr hp h hr hd; exact h.elim

/-- The loops' marks are taken up at a function's end. -/
theorem leave_marks {fn : Func} {tm : Array Value} {R : Ending → World → Prop} {s : St} (hR : ∀ {m pr F β w}, Rl P c (z.wt m pr) F β s tm w → ∃ v, (results fn tm).run P w = .ok v w ∧ R (.returned v) w) :
    ∀ (Ds : List Nat) {m : Mark} {pr : Nat → Obj → Prop} {F : Nat → Prop} {β : Bt} {w : World}, Ds.Nodup → (∀ D, D ∈ Ds → pr D (.deferred (some [])) ∧ z.w.heap.size ≤ D) → Rl P c (z.wt m pr) F β s tm w → LeavesInM Fence.wide n P fn tm R (Ds.map dmk) .returning w
  | [], m, pr, F, β, w, _, _, hr => hR hr
  | D :: Ds, m, pr, F, β, w, hnd, hD, hr => by
    obtain ⟨h1, h2⟩ := List.nodup_cons.1 hnd
    obtain ⟨q1, q2, q3⟩ := hr.prot D _ (hD D List.mem_cons_self).1
    refine ⟨by simp, .inl ⟨D, w.putObj D (.deferred none), rfl, run_takeDeferred q2, ?_⟩⟩
    have hf := (show Rl P c (z.wt ⟨w, F, fun _ => none⟩ pr) F β s tm w from hr.mark0).flip (l := D) q1 q3 (hD D List.mem_cons_self).2 (.inl q1) (fun id => by show (none : Option Nat) ≠ _; simp) (.deferred none) (fun k o => k ≠ D ∧ pr k o) (fun k o h => .inl ⟨h.1, h.2⟩)
    exact leave_marks hR Ds h2 (fun D' hD' => ⟨⟨fun e => h1 (e ▸ hD'), (hD D' (List.mem_cons_of_mem _ hD')).1⟩, (hD D' (List.mem_cons_of_mem _ hD')).2⟩) hf
end

/-! ### Functions -/

def argsE : Nat → List V → Env
  | _, [] => []
  | n, x :: r => (n, x) :: argsE (n + 1) r
def resOne (c : Ctx) (s : St) : ResultVar → Option V
  | .tmp t => match look s.e t with
    | .opt _ _ _ => none
    | .nb _ => none
    | x => some x
  | .cell a t => match look s.e a, tlook c.T t with
    | .ptr id off, some ti => match olook s.o id with
      | some (.var cs) => loadX ti (cs.drop off)
      | _ => none
    | _, _ => none
def resAll (c : Ctx) (s : St) : List ResultVar → Option (List V)
  | [] => some []
  | r :: rs => match resOne c s r, resAll c s rs with
    | some x, some xs => some (x :: xs)
    | _, _ => none
def resV (c : Ctx) (s : St) (rs : List ResultVar) : Option V :=
  match resAll c s rs with
  | some [x] => some x
  | some xs => some (.tup xs)
  | none => none
/-- What a function hands back is data, and is this. -/
def retC (s : St) (x r : V) : Prop :=
  let ids := oslIds x
  bif allLow ids && isData r then (match subFz ids s [x] with
    | [x'] => LeP (frz ids s).o x' r
    | _ => False) else False
def retQ (c : Ctx) (rs : List ResultVar) (r : V) : Post := fun e s =>
  match e with
  | .normal => (match resV c s rs with
    | some x => retC s x r
    | none => False)
  | .ret => (match resV c s rs with
    | some x => retC s x r
    | none => False)
  | _ => False

section
variable {P : Program} {c : Ctx} {z : From} {F : Nat → Prop} {β : Bt} {s : St} {tm : Array Value} {w : World}

theorem look_argsE : ∀ (l : List V) (n t : Nat), look (argsE n l) t = if n ≤ t then (l[t - n]?).getD .junk else .junk
  | [], n, t => by simp [argsE, look]
  | x :: r, n, t => by
    simp only [argsE, look]
    by_cases h : n = t
    · subst h; simp
    · rw [beq_false (Ne.symm h), cond_false, look_argsE r (n + 1) t]
      by_cases h1 : n ≤ t
      · have h2 : n + 1 ≤ t := by omega
        rw [if_pos h1, if_pos h2, show t - n = (t - (n + 1)) + 1 by omega]
        simp
      · rw [if_neg h1, if_neg (by omega)]

theorem resOne_run (hr : Rl P c z F β s tm w) {r : ResultVar} {x : V} (h : resOne c s r = some x) : ∃ v, (match r with
    | .tmp t => pure (tm.getD t undef)
    | .cell a t => do loadVar t (← asAddr (tm.getD a undef)) : Sem Value).run P w = .ok v w ∧ RA w F β s.o v x := by
  cases r with
  | tmp t =>
    refine ⟨tm.getD t undef, rfl, ?_⟩
    have he := hr.env t
    simp only [resOne] at h
    split at h
    · cases h
    · cases h
    · rename_i h1 h2
      simp only [Option.some.injEq] at h
      subst h
      exact he.ra (fun t b v e => h1 t b v e) (fun b e => h2 b e)
  | cell a t =>
    simp only [resOne] at h
    split at h
    · rename_i id off ti h1 h2
      split at h
      · rename_i cs h3
        have he := hr.env a
        rw [h1] at he
        obtain ⟨b, cs', g1, g2, g3⟩ := RA.of_ptr he
        obtain ⟨b', g4, hc⟩ := Cells.of_var hr.own h3
        rw [g1] at g4; cases g4
        have hc := hc.drop off
        rw [Nat.zero_add] at hc
        obtain ⟨v, m1, m2⟩ := loadX_run hr.tab h2 hc h
        exact ⟨v, by simp [g3, asAddr, m1 w rfl], m2⟩
      · cases h
    · cases h

theorem resAll_run (hr : Rl P c z F β s tm w) : ∀ (rs : List ResultVar) {xs : List V}, resAll c s rs = some xs → ∃ vs : List Value, (rs.mapM (m := Sem) fun
    | .tmp t => pure (tm.getD t undef)
    | .cell a t => do loadVar t (← asAddr (tm.getD a undef))).run P w = .ok vs w ∧ vs.length = xs.length ∧ ∀ (i : Nat) (v : Value) (x : V), vs[i]? = some v → xs[i]? = some x → RA w F β s.o v x
  | [], xs, h => by
    simp only [resAll, Option.some.injEq] at h
    subst h
    exact ⟨[], by simp, rfl, by simp⟩
  | r :: rs, xs, h => by
    simp only [resAll] at h
    split at h
    · rename_i x xs' h1 h2
      simp only [Option.some.injEq] at h
      subst h
      obtain ⟨v, g1, g2⟩ := resOne_run hr h1
      obtain ⟨vs, g3, g4, g5⟩ := resAll_run hr rs h2
      refine ⟨v :: vs, ?_, by simp [g4], fun i v' x' hi hx => ?_⟩
      · rw [List.mapM_cons]
        simp only [Sem.run_bind]
        rw [show _ = Result.ok v w from g1]
        simp only [Result.andThen_ok]
        rw [g3]
        simp
      · cases i with
        | zero => simp at hi hx; subst hi; subst hx; exact g2
        | succ i => exact g5 i v' x' (by simpa using hi) (by simpa using hx)
    · cases h

theorem results_run (hr : Rl P c z F β s tm w) {fn : Func} {x : V} (h : resV c s fn.results.toList = some x) : ∃ v, (results fn tm).run P w = .ok v w ∧ RA w F β s.o v x := by
  unfold resV at h
  cases hx : resAll c s fn.results.toList with
  | none => rw [hx] at h; cases h
  | some xs =>
    rw [hx] at h
    obtain ⟨vs, h1, h2, h3⟩ := resAll_run hr _ hx
    have hm : (fn.results.mapM (m := Sem) fun
      | .tmp t => pure (tm.getD t undef)
      | .cell a t => do loadVar t (← asAddr (tm.getD a undef))).run P w = .ok vs.toArray w := by
      rw [Array.mapM_eq_mapM_toList, Sem.run_map, h1]
      rfl
    have key : (results fn tm).run P w = .ok (if h : vs.toArray.size = 1 then vs.toArray[0] else .tuple vs.toArray) w := by
      unfold results
      rw [Sem.run_bind]
      refine Eq.trans (congrArg (fun q : Result (Array Value) => q.andThen fun a w' => (pure (if h : a.size = 1 then a[0] else .tuple a) : Sem Value).run P w') hm) ?_
      rfl
    clear hm h1
    rw [key]
    match xs, vs, h2, h3, h with
    | [], [], _, _, h =>
      simp only [Option.some.injEq] at h; subst h
      exact ⟨.tuple #[], rfl, .tup _ _ rfl (by simp)⟩
    | [y], [v], _, h3, h =>
      simp only [Option.some.injEq] at h; subst h
      exact ⟨v, rfl, h3 0 v y rfl rfl⟩
    | y :: y' :: ys, v :: v' :: vs, h2, h3, h =>
      simp only [Option.some.injEq] at h; subst h
      refine ⟨.tuple (v :: v' :: vs).toArray, by simp, .tup _ _ (by simpa using h2) (fun i u x hi hx => h3 i u x (by simpa using hi) hx)⟩

theorem retC_rd (hr : Rl P c z F β s tm w) {v : Value} {x r : V} (hx : RA w F β s.o v x) (h : retC s x r) : ∃ F' β', Rl P c z F' β' (frz (oslIds x) s) tm w ∧ RD w F' v r ∧ (∀ b, z.F b → F' b) := by
  simp only [retC] at h
  obtain ⟨h1, h⟩ := bif_true h
  simp only [Bool.and_eq_true] at h1
  obtain ⟨F', β', g1, g2, g3⟩ := Rl.freezes _ hr (allLow_iff _ h1.1)
  obtain ⟨k1, k2⟩ := g3 [x] [v] rfl (fun i u y hi hy => by
    cases i with
    | zero => simp at hi hy; subst hi; subst hy; exact hx
    | succ i => simp at hi)
  split at h
  · rename_i x' hx'
    rw [hx'] at k2
    exact ⟨F', β', g1, (h.ra (k2 0 v x' rfl rfl)).data h1.2, g1.F0F⟩
  · exact h.elim

theorem argsE_re {args : List V} {vs : Array Value} {N : Nat} {o : Own} (h1 : vs.size = args.length) (h2 : ∀ (i : Nat) (v : Value) (x : V), vs[i]? = some v → args[i]? = some x → RA w F β o v x) (hn : ∀ x, x ∈ args → (∀ t b v, x ≠ .opt t b v) ∧ ∀ b, x ≠ .nb b) (t : Nat) :
    RE w F β o (vs ++ Array.replicate (N - vs.size) undef) ((vs ++ Array.replicate (N - vs.size) undef).getD t undef) (look (argsE 0 args) t) := by
  rw [look_argsE, if_pos (Nat.zero_le _), Nat.sub_zero]
  cases hx : args[t]? with
  | none => exact .junk _
  | some x =>
    have hlt : t < vs.size := by rw [h1]; exact (List.getElem?_eq_some_iff.1 hx).1
    have hv : vs[t]? = some vs[t] := Array.getElem?_eq_getElem hlt
    have : (vs ++ Array.replicate (N - vs.size) undef).getD t undef = vs[t] := by
      rw [Array.getD_eq_getD_getElem?, Array.getElem?_append_left hlt, hv]; rfl
    rw [this]
    have hra := h2 t _ x hv hx
    obtain ⟨n1, n2⟩ := hn x (List.mem_of_getElem? hx)
    simp only [Option.getD_some]
    cases x <;> first | exact hra | exact absurd rfl (n1 _ _ _) | exact absurd rfl (n2 _)

/-- **A function's answer**: data in, data out. -/
theorem aval_of_vc {f : FuncId} {fn : Func} {code : Code} {args : List V} {r : V} (hf : P.funcs[f]? = some fn) (hname : (fn.name == "runtime.NumGoroutine") = false) (hb : fn.body = some code) (hN : fn.ntmps = c.N) (hn : args.length ≤ c.N)
    (hT : TabOk P c.T) (hE : EqsOk P c.E) (hm : P.follows .mixedOrders = true) (hd : isDatal args = true) (h : V.wfl args → vc P c code (retQ c fn.results.toList r) ⟨argsE 0 args, [], []⟩) : AVal P c.G f args r := by
  refine ⟨⟨fn, hf, hname, by rw [hb]; rfl⟩, fun w F β vs h1 h2 hown hglob hF hdom => ?_⟩
  have hdat := (isDatal_iff args).1 hd
  have hwf : V.wfl args := (V.wfl_iff _).2 fun x hx => by
    obtain ⟨i, hi⟩ := mem_of_getElem? hx
    have hlt : i < vs.size := by rw [h1]; exact (List.getElem?_eq_some_iff.1 hi).1
    exact ((h2 i _ x (Array.getElem?_eq_getElem hlt) hi).data (hdat x hx)).wf
  refine callsIn_wide.1 (callsIn_of_wp_marks (n := 0) hf hb trivial (wpIn_mono (vc_sound (r := none) (n := 0) (z := ⟨w, F, β, [], ⟨w, F, β⟩, fun _ _ => False⟩) (d := []) (m := ⟨w, F, β⟩) (pr := fun _ _ => False) hm code (.inl rfl) (h hwf) (F := F) (β := β) ?_ ⟨fun _ _ h => h, [], rfl, List.nodup_nil, fun D h => by simp at h⟩) ?_))
  · refine { n := by simp [hN]; omega, env := fun t => ?_, own := hown, F0F := fun _ h => h, Fnew := fun _ _ h => h, Flt := hF, dom := hdom, fresh := fun id ent b h => by simp [olook] at h, keep := Keep.refl _ _, glob := hglob, tab := hT, eqs := hE, low := fun id ent h => by simp [olook, From.wt] at h,
             pins := fun id ent h => by simp [olook, From.wt] at h, zlt := hF, nw := fun id ent b h => by simp [olook] at h, hold := fun id e0 e h => by simp [olook, From.wt] at h, mk0 := Nat.le_refl _, mk1 := fun b _ hn => ⟨rfl, hn⟩, prot := fun _ _ h => h.elim, mk2 := fun id b hb _ _ => by
               have hb' : β id = some b := hb
               rw [hdom id rfl] at hb'; cases hb' }
    exact argsE_re h1 h2 (fun x hx => ⟨fun t b v e => by have := hdat x hx; rw [e] at this; simp [isData] at this, fun b e => by have := hdat x hx; rw [e] at this; simp [isData] at this⟩) t
  · have fin : ∀ (a : Act) (w' : World) (s : St), (match resV c s fn.results.toList with
        | some x => retC s x r
        | none => False) → ∀ {m pr F' β'}, Rl P c ((From.mk w F β [] ⟨w, F, β⟩ fun _ _ => False).wt m pr) F' β' s a.tmps w' → ∃ v, (results fn a.tmps).run P w' = .ok v w' ∧ ∃ v1 r1 o' F' β', Ending.returned v = .returned v1 ∧ r1 = r ∧ (∀ b, F b → F' b) ∧ (∀ b, b < w.heap.size → F' b → F b) ∧ (∀ b, F' b → b < w'.heap.size) ∧
        RA w' F' β' o' v1 r1 ∧ OwnOk w' F' β' o' ∧ (∀ id, olook o' id = none → β' id = none) ∧ Keep (fun b => ∃ id ent, olook [] id = some ent ∧ β id = some b) w w' ∧
        (∀ id ent b, olook o' id = some ent → β' id = some b → w.heap.size ≤ b ∨ ∃ ent', olook [] id = some ent' ∧ β id = some b) ∧
        (∀ id ent0 ent, olook [] id = some ent0 → olook o' id = some ent → pinned ent0 = true → Same w β [] w' β' o' id id) := by
      intro a w' s hq m pr F' β' hr
      split at hq
      · rename_i x hx
        obtain ⟨v, g1, g2⟩ := results_run hr hx
        obtain ⟨F1, β1, g3, g4, g5⟩ := retC_rd hr g2 hq
        exact ⟨v, g1, v, r, [], F1, fun _ => none, rfl, rfl, g3.F0F, g3.Fnew, g3.Flt, .d _ _ g4, ⟨fun _ _ h => by simp [olook] at h, fun _ _ _ _ _ h => by simp [olook] at h⟩, fun _ _ => rfl, hr.keep, fun id ent b h => by simp [olook] at h, fun id e0 e h => by simp [olook] at h⟩
      · exact hq.elim
    rintro e a w' he
    cases e with
    | normal =>
      obtain ⟨pr, ⟨_, Ds, h1, h4, h5⟩, m, F', β', s, h2, h3⟩ := he
      show LeavesInM _ _ _ _ _ _ a.defers _ _
      rw [h1, List.append_nil]
      exact leave_marks (fun hr => fin a _ s h2 hr) Ds h4 h5 h3
    | ret =>
      obtain ⟨pr, ⟨_, Ds, h1, h4, h5⟩, m, F', β', s, h2, h3⟩ := he
      show LeavesInM _ _ _ _ _ _ a.defers _ _
      rw [h1, List.append_nil]
      exact leave_marks (fun hr => fin a _ s h2 hr) Ds h4 h5 h3
    | exit i => obtain ⟨pr, h1, m, F', β', s, h2, h3⟩ := he; exact h2.elim
    | goto l => obtain ⟨pr, h1, m, F', β', s, h2, h3⟩ := he; exact h2.elim
    | panic ch => exact he.elim
    | outgrown => exact he.elim

/-- The same, with the program out of sight. -/
theorem aval_of {f : FuncId} {fn : Func} {code : Code} {args : List V} {r : V} (hf : P.funcs[f]? = some fn) (hname : (fn.name == "runtime.NumGoroutine") = false) (hb : fn.body = some code) (hN : fn.ntmps = c.N) (hn : (leN args.length c.N) = true)
    (hT : TabOk P c.T) (hE : EqsOk P c.E) (hm : P.follows .mixedOrders = true) (hd : isDatal args = true) (h : ∀ P', P' = P → V.wfl args → vc P' c code (retQ c fn.results.toList r) ⟨argsE 0 args, [], []⟩) : AVal P c.G f args r :=
  aval_of_vc hf hname hb hN (leN_true hn) hT hE hm hd (h P rfl)

end
end Go.Vg
/- Tables of types, as a program has them. -/
namespace Go.Vg
open Go

def tiOf (P : Program) (t : TypeId) : Option TI :=
  match P.info? t, P.underlying t with
  | some info, some desc => match info.zero with
    | some zv => some ⟨TD.of desc, info.size, info.bytes, zv.cells.toList.map constV⟩
    | none => none
  | _, _ => none
def tabOf (P : Program) : List Nat → Tab
  | [] => []
  | t :: r => match tiOf P t with
    | some ti => (t, ti) :: tabOf P r
    | none => tabOf P r
def fieldsOk (P : Program) : TypeDesc → Bool
  | .struct fs => fs.toList.all fun f => ((P.info? f.type).map (·.size)).isSome
  | _ => true
def tyOk (P : Program) (t : TypeId) : Bool :=
  match P.info? t, P.underlying t with
  | some info, some desc => match info.zero with
    | some zv => (eqN zv.cells.size info.size) && zv.cells.toList.all Value.oneCell' && fieldsOk P desc && (isAggV zv == (TD.of desc).isAgg)
    | none => true
  | _, _ => true
theorem tabOk_of {P : Program} : ∀ {ts : List Nat}, ts.all (tyOk P) = true → TabOk P (tabOf P ts)
  | [], _ => ⟨fun t ti h => by simp [tabOf, tlook] at h⟩
  | t :: r, h => by
    simp only [List.all_cons, Bool.and_eq_true] at h
    have ih := tabOk_of h.2
    simp only [tabOf]
    split
    · rename_i ti hti
      refine ⟨fun t' ti' h' => ?_⟩
      simp only [tlook] at h'
      cases hb : (eqN t t') with
      | false => rw [hb] at h'; exact ih.ok t' ti' h'
      | true =>
        rw [hb] at h'
        have e1 := eqN_true hb
        simp only [cond_true, Option.some.injEq] at h'
        subst h'
        rw [← e1]
        unfold tiOf at hti
        split at hti
        · rename_i info desc h1 h2
          split at hti
          · rename_i zv h3
            simp only [Option.some.injEq] at hti
            subst hti
            have hk := h.1
            unfold tyOk at hk
            rw [h1, h2] at hk
            simp only [h3, Bool.and_eq_true] at hk
            refine ⟨info, zv, desc, h1, h2, rfl, rfl, rfl, h3, rfl, eqN_true hk.1.1.1, fun v hv => ?_, fun fields hf f hff => ?_, by simpa using hk.2⟩
            · exact List.all_eq_true.1 hk.1.1.2 v (by simpa using hv)
            · subst hf
              exact List.all_eq_true.1 hk.1.2 f hff
          · cases hti
        · cases hti
    · exact ih

theorem wrap64 {x : Int} (h1 : -9223372036854775808 ≤ x) (h2 : x ≤ 9223372036854775807) : IntKind.i64.wrap x = x := wrap_id (by rw [has_iff]; exact ⟨h1, h2⟩)
theorem add64 {x y : Int} (h1 : -9223372036854775808 ≤ x + y) (h2 : x + y ≤ 9223372036854775807) : arD .add .i64 x y = x + y := wrap64 h1 h2
theorem sub64 {x y : Int} (h1 : -9223372036854775808 ≤ x - y) (h2 : x - y ≤ 9223372036854775807) : arD .sub .i64 x y = x - y := wrap64 h1 h2
theorem mul64 {x y : Int} (h1 : -9223372036854775808 ≤ x * y) (h2 : x * y ≤ 9223372036854775807) : arD .mul .i64 x y = x * y := wrap64 h1 h2

theorem lssT {a b : IE} (h : (BE.cmp .lss a b).den = true) : a.den < b.den := by simpa [BE.den, cmpD] using h
theorem lssF {a b : IE} (h : (BE.cmp .lss a b).den = false) : ¬ (a.den < b.den) := by simpa [BE.den, cmpD] using h
theorem leqT {a b : IE} (h : (BE.cmp .leq a b).den = true) : a.den ≤ b.den := by simpa [BE.den, cmpD] using h
theorem leqF {a b : IE} (h : (BE.cmp .leq a b).den = false) : ¬ (a.den ≤ b.den) := by simpa [BE.den, cmpD] using h
theorem gtrT {a b : IE} (h : (BE.cmp .gtr a b).den = true) : a.den > b.den := by simpa [BE.den, cmpD] using h
theorem gtrF {a b : IE} (h : (BE.cmp .gtr a b).den = false) : ¬ (a.den > b.den) := by simpa [BE.den, cmpD] using h
theorem geqT {a b : IE} (h : (BE.cmp .geq a b).den = true) : a.den ≥ b.den := by simpa [BE.den, cmpD] using h
theorem geqF {a b : IE} (h : (BE.cmp .geq a b).den = false) : ¬ (a.den ≥ b.den) := by simpa [BE.den, cmpD] using h
theorem eqlT {a b : IE} (h : (BE.cmp .eql a b).den = true) : a.den = b.den := by simpa [BE.den, cmpD] using h
theorem eqlF {a b : IE} (h : (BE.cmp .eql a b).den = false) : ¬ (a.den = b.den) := by simpa [BE.den, cmpD] using h
theorem neqT {a b : IE} (h : (BE.cmp .neq a b).den = true) : a.den ≠ b.den := by simpa [BE.den, cmpD] using h
theorem neqF {a b : IE} (h : (BE.cmp .neq a b).den = false) : ¬ (a.den ≠ b.den) := by simpa [BE.den, cmpD] using h

end Go.Vg
/- Inputs as data: shapes of types, and that what is read as data is of its type's shape. -/
namespace Go.Vg
open Go Go.WideShapes Go.ChangeShapes Go.Deep Go.RowKit

inductive Sh
  | int (k : IntKind) | bool | str | sl (e : Sh) | pair (a r : Sh)
def Sh.T : Sh → Type
  | .int _ => Int
  | .bool => Bool
  | .str => List UInt8
  | .sl e => List e.T
  | .pair a r => a.T × r.T
def Sh.sz : Sh → Nat
  | .pair a r => a.sz + r.sz
  | _ => 1
mutual
def Sh.cells : (s : Sh) → s.T → List V
  | .int k, n => [.int k (.v n)]
  | .bool, b => [.bool (.v b)]
  | .str, l => [.str (.v l)]
  | .sl e, l => [.sl e.sz (Sh.val e) l]
  | .pair a r, p => Sh.cells a p.1 ++ Sh.cells r p.2
def Sh.val : (s : Sh) → s.T → V
  | .int k, n => .int k (.v n)
  | .bool, b => .bool (.v b)
  | .str, l => .str (.v l)
  | .sl e, l => .sl e.sz (Sh.val e) l
  | .pair a r, p => .agg (Sh.cells a p.1 ++ Sh.cells r p.2)
end
theorem Sh.cells_len : ∀ (s : Sh) (p : s.T), (s.cells p).length = s.sz
  | .int _, _ => rfl
  | .bool, _ => rfl
  | .str, _ => rfl
  | .sl _, _ => rfl
  | .pair a r, p => by simp [Sh.cells, Sh.sz, Sh.cells_len a, Sh.cells_len r]
theorem Sh.cells_val (s : Sh) (p : s.T) : Vg.cells (s.val p) = s.cells p := by
  cases s <;> simp [Sh.val, Sh.cells, Vg.cells]

mutual
/-- A type has this shape. -/
def rdT (P : Program) : Nat → TypeId → Sh → Bool
  | 0, _, _ => false
  | n + 1, t, s => match P.underlying t, s with
    | some (.int k), .int k' => decide (k = k')
    | some .bool, .bool => true
    | some .string, .str => true
    | some (.slice e), .sl s => (eqN (P.cellsOf e) s.sz) && (ltN 0 s.sz) && rdT P n e s
    | some (.struct fs), .pair a r => (eqN (P.cellsOf t) (Sh.pair a r).sz) && rdF P n 0 fs.toList (.pair a r)
    | some (.array m e), .pair a r => (eqN (P.cellsOf t) (Sh.pair a r).sz) && rdA P n e m (.pair a r)
    | _, _ => false
def rdF (P : Program) : Nat → Nat → List Field → Sh → Bool
  | 0, _, _, _ => false
  | n + 1, off, [f], s => (eqN f.offset off) && (eqN (P.cellsOf f.type) s.sz) && rdT P n f.type s
  | n + 1, off, f :: r, .pair a b => (eqN f.offset off) && (eqN (P.cellsOf f.type) a.sz) && rdT P n f.type a && rdF P n (off + a.sz) r b
  | _, _, _, _ => false
def rdA (P : Program) : Nat → TypeId → Nat → Sh → Bool
  | 0, _, _, _ => false
  | n + 1, e, 1, s => (eqN (P.cellsOf e) s.sz) && rdT P n e s
  | n + 1, e, m + 2, .pair a b => (eqN (P.cellsOf e) a.sz) && rdT P n e a && rdA P n e (m + 1) b
  | _, _, _, _ => false
end

section
variable {H : Type} {enc : TypeId × Value → H} {P : Program} {w : World} {base : Nat} {spare : Nat → Bool} {held : Bool}

/-- Cells that are data of a shape. -/
def Shaped (w : World) (cs : List Value) (s : Sh) (p : s.T) : Prop :=
  cs.length = s.sz ∧ ∀ (i : Nat) (c : Value), cs[i]? = some c → c.oneCell' = true ∧ ∀ x, (s.cells p)[i]? = some x → RD w (fun _ => False) c x

theorem Shaped.pair {cs ds : List Value} {a r : Sh} {p : a.T} {q : r.T} (h : Shaped w cs a p) (k : Shaped w ds r q) : Shaped w (cs ++ ds) (.pair a r) (p, q) := by
  refine ⟨by simp [Sh.sz, h.1, k.1], fun i c hi => ?_⟩
  simp only [Sh.cells]
  rw [List.getElem?_append] at hi
  have hlen := Sh.cells_len a p
  by_cases hlt : i < cs.length
  · rw [if_pos hlt] at hi
    obtain ⟨h1, h2⟩ := h.2 i c hi
    exact ⟨h1, fun x hx => h2 x (by rw [List.getElem?_append_left (by rw [hlen, ← h.1]; exact hlt)] at hx; exact hx)⟩
  · rw [if_neg hlt] at hi
    obtain ⟨h1, h2⟩ := k.2 _ c hi
    exact ⟨h1, fun x hx => h2 x (by rw [List.getElem?_append_right (by rw [hlen, ← h.1]; omega), hlen, ← h.1] at hx; exact hx)⟩

theorem take_drop_split (cs : List Value) (off a b : Nat) : (cs.drop off).take a ++ (cs.drop (off + a)).take b = (cs.drop off).take (a + b) := by
  rw [List.take_add, List.drop_drop]

mutual
theorem rdT_open : ∀ (n : Nat) {t : TypeId} {s : Sh} {fuel : Nat} {cs : List Value} {x : DataW H × List MemPlace}, rdT P n t s = true → DataW.trod enc P w base spare held fuel t cs = some x → ∃ p, Shaped w cs s p
  | 0, _, _, _, _, _, h, _ => by simp [rdT] at h
  | n + 1, t, s, fuel, cs, x, h, hx => by
    unfold rdT at h
    split at h
    · rename_i k k' ht
      simp only [decide_eq_true_eq] at h
      subst h
      obtain ⟨m, rfl, rfl, hw⟩ := DataW.trod_int ht hx
      refine ⟨m, rfl, fun i c hi => ?_⟩
      cases i with
      | zero =>
        simp at hi; subst hi
        refine ⟨rfl, fun x hx => ?_⟩
        simp [Sh.cells] at hx
        subst hx
        simp only [Lit.wf, Bool.and_eq_true, decide_eq_true_eq] at hw
        exact .int k _ m rfl hw
      | succ i => simp at hi
    · rename_i ht
      obtain ⟨b, rfl, rfl⟩ := DataW.trod_bool ht hx
      refine ⟨b, rfl, fun i c hi => ?_⟩
      cases i with
      | zero =>
        simp at hi; subst hi
        refine ⟨rfl, fun x hx => ?_⟩
        simp [Sh.cells] at hx
        subst hx
        exact .bool _ b rfl
      | succ i => simp at hi
    · rename_i ht
      obtain ⟨b, rfl, rfl, hl⟩ := DataW.trod_string ht hx
      refine ⟨b.data.toList, rfl, fun i c hi => ?_⟩
      cases i with
      | zero =>
        simp at hi; subst hi
        refine ⟨rfl, fun x hx => ?_⟩
        simp [Sh.cells] at hx
        subst hx
        refine .str _ b rfl ?_
        simp only [SE.den]
        have : b.data.toList.length = b.size := rfl
        rw [this]; unfold LIM; unfold maxLen at hl; omega
      | succ i => simp at hi
    · rename_i e s ht
      simp only [Bool.and_eq_true] at h
      have hce := eqN_true h.1.1
      have hpos : 0 < s.sz := by simpa using h.1.2
      rcases open_slice ht hx with ⟨rfl, rfl⟩ | ⟨a, len, cap, m, nn, D, Pl, rfl, hb, hl, hm, hmm, rfl, hall⟩
      · refine ⟨([] : List s.T), rfl, fun i c hi => ?_⟩
        cases i with
        | zero =>
          simp at hi; subst hi
          refine ⟨rfl, fun x hx => ?_⟩
          simp [Sh.cells] at hx
          subst hx
          exact .nilsl _ s.sz (by simp [V.elems])
        | succ i => simp at hi
      · have hlm : len ≤ m := by rw [hmm]; split <;> omega
        have hex : ∀ i, i < len → ∃ p : s.T, ∀ j (c : Value), w.cell? ((a.add (i * s.sz)).add j) = some c → j < s.sz → c.oneCell' = true ∧ ∀ x, (s.cells p)[j]? = some x → RD w (fun _ => False) c x := fun i hi => by
          obtain ⟨cs', h1, h2⟩ := hall i (by omega)
          obtain ⟨p, hp⟩ := rdT_open n h.2 h2
          rw [hce] at h1
          obtain ⟨_, _, h3⟩ := World.cells?_some h1
          exact ⟨p, fun j c hc hj => hp.2 j c (by rw [← h3 j hj]; exact hc)⟩
        have hcell : ∀ i j, i < len → j < s.sz → ∃ c, w.cell? ((a.add (i * s.sz)).add j) = some c := fun i j hi hj => by
          obtain ⟨cs', h1, h2⟩ := hall i (by omega)
          rw [hce] at h1
          obtain ⟨_, h4, h3⟩ := World.cells?_some h1
          rw [h3 j hj]
          exact ⟨cs'[j], List.getElem?_eq_getElem (by omega)⟩
        by_cases h0 : len = 0
        · subst h0
          refine ⟨([] : List s.T), rfl, fun i c hi => ?_⟩
          cases i with
          | zero =>
            simp at hi; subst hi
            refine ⟨rfl, fun x hx => ?_⟩
            simp [Sh.cells] at hx
            subst hx
            exact .slice _ s.sz [] (by simp [V.elems]) (by simp) a cap (by simp) (by simp) (by simp) (by simp) (by simp) (by simp) (fun _ _ => undef) (by simp) (by simp) (by simp)
          | succ i => simp at hi
        · have hspot : a.spot = none := by
            obtain ⟨c, hc⟩ := hcell 0 0 (by omega) hpos
            rw [Nat.zero_mul, show (a.add 0).add 0 = a from rfl] at hc
            unfold World.cell? at hc
            split at hc
            · split at hc
              · cases hc
              · rename_i hs; simpa using hs
            · cases hc
          obtain ⟨b, off, spot⟩ := a
          simp only at hspot; subst hspot
          have hblt : b < w.heap.size := by
            obtain ⟨c, hc⟩ := hcell 0 0 (by omega) hpos
            simp only [Addr.add_at, World.cell?] at hc
            rcases Nat.lt_or_ge b w.heap.size with h | h
            · exact h
            · simp [h] at hc
          obtain ⟨c0, hc0⟩ := hcell 0 0 (by omega) hpos
          let f : Nat → s.T := fun i => if hi : i < len then Classical.choose (hex i hi) else Classical.choose (hex 0 (by omega))
          have hf : ∀ i, i < len → ∀ j (c : Value), w.cell? ⟨b, off + i * s.sz + j, none⟩ = some c → j < s.sz → c.oneCell' = true ∧ ∀ x, (s.cells (f i))[j]? = some x → RD w (fun _ => False) c x := fun i hi j c hc hj => by
            have := Classical.choose_spec (hex i hi) j c (by rw [Addr.add_at, Addr.add_at]; exact hc) hj
            simp only [f, hi, dif_pos]
            exact this
          refine ⟨(List.range len).map f, rfl, fun i c hi => ?_⟩
          cases i with
          | zero =>
            simp at hi; subst hi
            refine ⟨rfl, fun x hx => ?_⟩
            simp [Sh.cells] at hx
            subst hx
            have hlen : len = (((List.range len).map f).map s.val).length := by simp
            have hget : ∀ (i : Nat) (e : V), (((List.range len).map f).map s.val)[i]? = some e → i < len ∧ e = s.val (f i) := fun i e he => by
              have hi : i < len := by
                have := (List.getElem?_eq_some_iff.1 he).1
                simpa using this
              refine ⟨hi, ?_⟩
              simp [hi] at he
              exact he.symm
            have hsz : ∀ i (y : V) j, (Vg.cells (s.val (f i)))[j]? = some y → j < s.sz ∧ (s.cells (f i))[j]? = some y := fun i y j hj => by
              rw [Sh.cells_val] at hj
              have := (List.getElem?_eq_some_iff.1 hj).1
              rw [Sh.cells_len] at this
              exact ⟨this, hj⟩
            have hcv : ∀ i j, i < len → j < s.sz → w.cell? ⟨b, off + i * s.sz + j, none⟩ = some ((w.cell? ⟨b, off + i * s.sz + j, none⟩).getD undef) := fun i j hi hj => by
              obtain ⟨c, hc⟩ := hcell i j hi hj
              rw [Addr.add_at, Addr.add_at] at hc
              rw [hc]; rfl
            have key : RD w (fun _ => False) (.slice (some ⟨b, off, none⟩) (((List.range len).map f).map s.val).length cap) (.sl s.sz s.val ((List.range len).map f)) := by
              refine .slice _ s.sz _ (by simp [V.elems]) (by simp) ⟨b, off, none⟩ cap (by rw [← hlen]; exact hl) (by rw [← hlen]; unfold LIM; unfold maxLen at hm; omega) (fun _ => rfl) (fun _ h => h) (fun _ => hblt) (fun i e he => ?_)
                (fun i j => (w.cell? ⟨b, off + i * s.sz + j, none⟩).getD undef) (fun i e he j y hj => ?_) (fun i e he j y hj => ?_) (fun i e he j y hj => ?_)
              · obtain ⟨_, rfl⟩ := hget i e he
                rw [Sh.cells_val, Sh.cells_len]
              · obtain ⟨hi, rfl⟩ := hget i e he
                obtain ⟨hjs, _⟩ := hsz i y j hj
                exact (hf i hi j _ (hcv i j hi hjs) hjs).1
              · obtain ⟨hi, rfl⟩ := hget i e he
                obtain ⟨hjs, _⟩ := hsz i y j hj
                exact hcv i j hi hjs
              · obtain ⟨hi, rfl⟩ := hget i e he
                obtain ⟨hjs, hjx⟩ := hsz i y j hj
                exact (hf i hi j _ (hcv i j hi hjs) hjs).2 y hjx
            rw [← hlen] at key
            exact key
          | succ i => simp at hi
    · rename_i fs a r ht
      generalize Sh.pair a r = s at h
      simp only [Bool.and_eq_true] at h
      obtain ⟨xs, m, _, rfl, hl, hlen, hf⟩ := DataW.trod_struct ht hx
      have hsz := eqN_true h.1
      obtain ⟨p, hp⟩ := rdF_open n (cs := cs) (fuel := m) (fs := fs.toList) (off := 0) h.2 (fun i f hi => by
        have hi' : fs[i]? = some f := by simpa using hi
        have := hf i f hi'
        have hlt : i < xs.length := by rw [hlen]; exact (Array.getElem?_eq_some_iff.1 hi').1
        exact ⟨xs[i], by rw [this]; exact List.getElem?_eq_getElem hlt⟩) (by omega)
      rw [List.drop_zero, List.take_of_length_le (by omega)] at hp
      exact ⟨p, hp⟩
    · rename_i m e a r ht
      generalize Sh.pair a r = s at h
      simp only [Bool.and_eq_true] at h
      obtain ⟨xs, k, _, rfl, hl, hlen, hf⟩ := DataW.trod_array ht hx
      have hsz := eqN_true h.1
      obtain ⟨p, hp⟩ := rdA_open n (cs := cs) (fuel := k) (e := e) (m := m) (i0 := 0) h.2 (fun i hi => by
        have := hf i (by omega)
        exact ⟨xs[i]'(by omega), by rw [Nat.zero_add, this]; exact List.getElem?_eq_getElem (by omega)⟩) (by rw [Nat.zero_mul]; omega)
      rw [Nat.zero_mul, List.drop_zero, List.take_of_length_le (by omega)] at hp
      exact ⟨p, hp⟩
    · cases h
theorem rdF_open : ∀ (n : Nat) {s : Sh} {fuel : Nat} {cs : List Value} {fs : List Field} {off : Nat}, rdF P n off fs s = true →
    (∀ (i : Nat) f, fs[i]? = some f → ∃ x : DataW H × List MemPlace, DataW.trod enc P w base spare held fuel f.type ((cs.drop f.offset).take (P.cellsOf f.type)) = some x) → off + s.sz ≤ cs.length → ∃ p, Shaped w ((cs.drop off).take s.sz) s p
  | 0, _, _, _, _, _, h, _, _ => by simp [rdF] at h
  | n + 1, s, fuel, cs, fs, off, h, hx, hl => by
    unfold rdF at h
    split at h
    · cases h
    · rename_i n' f q0
      simp only [Bool.and_eq_true] at h
      obtain ⟨x, hx0⟩ := hx 0 f rfl
      rw [eqN_true h.1.1, eqN_true h.1.2] at hx0
      cases q0
      exact rdT_open n h.2 hx0
    · rename_i n' f r a b q0 q1
      simp only [Bool.and_eq_true] at h
      obtain ⟨x, hx0⟩ := hx 0 f rfl
      rw [eqN_true h.1.1.1, eqN_true h.1.1.2] at hx0
      cases q1
      simp only [Sh.sz] at hl
      obtain ⟨p, hp⟩ := rdT_open n h.1.2 hx0
      obtain ⟨q, hq⟩ := rdF_open n (cs := cs) h.2 (fun i f' hi => hx (i + 1) f' (by simpa using hi)) (by omega)
      have := hp.pair hq
      rw [take_drop_split] at this
      exact ⟨(p, q), this⟩
    · cases h
theorem rdA_open : ∀ (n : Nat) {s : Sh} {fuel : Nat} {cs : List Value} {e : TypeId} {m i0 : Nat}, rdA P n e m s = true →
    (∀ i, i < m → ∃ x : DataW H × List MemPlace, DataW.trod enc P w base spare held fuel e ((cs.drop ((i0 + i) * P.cellsOf e)).take (P.cellsOf e)) = some x) → i0 * P.cellsOf e + s.sz ≤ cs.length → ∃ p, Shaped w ((cs.drop (i0 * P.cellsOf e)).take s.sz) s p
  | 0, _, _, _, _, _, _, h, _, _ => by simp [rdA] at h
  | n + 1, s, fuel, cs, e, m, i0, h, hx, hl => by
    unfold rdA at h
    split at h
    · cases h
    · rename_i q0
      cases q0
      simp only [Bool.and_eq_true] at h
      obtain ⟨x, hx0⟩ := hx 0 (by omega)
      have he := eqN_true h.1
      rw [he] at hx0 hl ⊢
      exact rdT_open n h.2 hx0
    · rename_i m a b q0
      cases q0
      simp only [Bool.and_eq_true] at h
      obtain ⟨x, hx0⟩ := hx 0 (by omega)
      have he := eqN_true h.1.1
      simp only [Sh.sz] at hl
      rw [he] at hx0 hl
      obtain ⟨p, hp⟩ := rdT_open n h.1.2 hx0
      obtain ⟨q, hq⟩ := rdA_open n (cs := cs) (i0 := i0 + 1) h.2 (fun i hi => by
        have := hx (i + 1) (by omega)
        rw [show i0 + 1 + i = i0 + (i + 1) by omega]
        exact this) (by rw [he, Nat.add_mul]; omega)
      have := hp.pair (by rw [he, Nat.add_mul, Nat.one_mul] at hq; exact hq)
      rw [Nat.add_zero, take_drop_split] at this
      rw [he]
      exact ⟨(p, q), this⟩
    · cases h
end

/-- An argument, opened. -/
theorem open_val {r : Reach} {b0 : Nat} {t : TypeId} {v : Value} {d : DataW H} {ps : List MemPlace} {n : Nat} {s : Sh} (hs : rdT P n t s = true) (hval : Value.okWide P w r b0 t v) (h : DataW.Trod enc P w base spare held t v d ps) : ∃ p, RD w (fun _ => False) v (s.val p) := by
  obtain ⟨fuel, hf⟩ := h
  obtain ⟨p, h1, h2⟩ := rdT_open n hs hf
  refine ⟨p, ?_⟩
  have one : v.cells = #[v] → s.cells p = [s.val p] → RD w (fun _ => False) v (s.val p) := fun e1 e2 => by
    rw [e1] at h2
    exact (h2 0 v rfl).2 _ (by rw [e2]; rfl)
  cases n with
  | zero => simp [rdT] at hs
  | succ n =>
    unfold rdT at hs
    split at hs
    · rename_i k k' ht
      simp only [Value.okWide, ht, Cell.okWide, Cell.ok] at hval
      refine one ?_ rfl
      cases v <;> first | rfl | exact hval.elim
    · rename_i ht
      simp only [Value.okWide, ht, Cell.okWide, Cell.ok] at hval
      refine one ?_ rfl
      cases v <;> first | rfl | exact hval.elim
    · rename_i ht
      simp only [Value.okWide, ht, Cell.okWide, Cell.ok] at hval
      refine one ?_ rfl
      cases v <;> first | rfl | exact hval.elim
    · rename_i e s ht
      simp only [Value.okWide, ht, Cell.okWide, Cell.ok] at hval
      refine one ?_ rfl
      cases v <;> first | rfl | exact hval.elim
    · rename_i fs a r ht
      simp only [Value.okWide, ht] at hval
      obtain ⟨cs, rfl, _⟩ := hval
      exact .agg _ _ (by simpa [Sh.cells_len, Sh.sz, Value.cells] using h1) (fun c hc => by
        obtain ⟨i, hi⟩ := List.mem_iff_getElem?.1 (show c ∈ cs.toList by simpa using hc)
        exact (h2 i c hi).1) (fun i c x hi hx => (h2 i c (by simpa [Value.cells] using hi)).2 x (by exact hx))
    · rename_i m e a r ht
      simp only [Value.okWide, ht] at hval
      obtain ⟨cs, rfl, _⟩ := hval
      exact .agg _ _ (by simpa [Sh.cells_len, Sh.sz, Value.cells] using h1) (fun c hc => by
        obtain ⟨i, hi⟩ := List.mem_iff_getElem?.1 (show c ∈ cs.toList by simpa using hc)
        exact (h2 i c hi).1) (fun i c x hi hx => (h2 i c (by simpa [Value.cells] using hi)).2 x (by exact hx))
    · cases hs

/-- A function that answers so, called with data of the caller's. -/
theorem AVal.calls {G : Glb} {f : FuncId} {xs : List V} {r : V} (h : AVal P G f xs r) (hd : isData r = true) {W : World} (hG : GlbOk G W (fun _ => False)) {vs : Array Value} (hl : vs.size = xs.length) (hx : ∀ (i : Nat) (v : Value) (x : V), vs[i]? = some v → xs[i]? = some x → RD W (fun _ => False) v x) :
    Calls P f vs W (fun e W' => ∃ v F', e = .returned v ∧ Below W.heap.size W W' ∧ RD W' F' v r ∧ ∀ b, b < W.heap.size → ¬ F' b) := by
  refine (h.2 W (fun _ => False) (fun _ => none) vs hl (fun i v x h1 h2 => .d _ _ (hx i v x h1 h2)) ⟨fun _ _ h => by simp [olook] at h, fun _ _ _ _ _ h => by simp [olook] at h⟩ hG (fun _ h => h.elim) (fun _ _ => rfl)).mono ?_
  rintro e w' ⟨v, r', o', F', β', rfl, rfl, g1, g2, g3, g4, g5, g6, g7, g8, _⟩
  exact ⟨v, F', rfl, ⟨g7.os, g7.tape, g7.output.out, g7.size, fun b hb => g7.block b hb (by rintro ⟨id, ent, h, _⟩; simp [olook] at h)⟩, g4.data hd, fun b hb h => g2 b hb h⟩

end
end Go.Vg
/- A variable that nobody turns any more. -/
