/- The own layer, part A8: soundness of the conditions of code. -/
import Derived.Test.YtpdklmagncfhaaaDoorA7
import Derived.Lib.Bytealg
import Derived.Below
set_option maxRecDepth 4000
set_option linter.all false
set_option linter.unusedVariables false
set_option linter.unusedSimpArgs false
/- Functions that are handed own things, and hand own things back. -/
namespace Go.Vg
open Go

def retOk (outs : Outs) (fz : List Nat) (s1 : St) (o1 : Own) : Bool :=
  nodupN (outX outs) && nodupN (outC outs) && subN (outC outs) (oids o1) && subN (oids o1) (outC outs) && allLow fz && subN (outX outs) (oids s1.o) && outs.all fun q => ((leN 20000 q.2.1) && (ltN q.1 10000)) || (eqN q.1 q.2.1)

/-- What is handed back, and what became of what was handed over. -/
inductive RetP : St → V → V → Own → Prop
  | mk {s : St} {x r : V} {o1 : Own} (outs : Outs) (fz : List Nat) (hc : retOk outs fz (frz fz s) o1 = true) (hs : subN (oids (ocOf outs (frz fz s) (srn (kap outs)))) (oids o1) = true) (ho : leO o1 (ocOf outs (frz fz s) (srn (kap outs))) o1)
      (hl : LePl o1 (V.subl (srn (kap outs)) (subFz fz s [x])) [r]) : RetP s x r o1
  /-- A variable is told as cells that nobody turns. -/
  | box {s : St} {x r : V} {o1 : Own} (X : Nat) (cs : List V) (hX : (ltN X 10000) = true) (he : olook s.o X = some (.var cs)) (hd : isDatal cs = true) (k : RetP (boxE s X cs) (V.sub (sbox X cs) x) r o1) : RetP s x r o1
  /-- A list that is empty is told of. -/
  | add {s : St} {x r : V} {o1 : Own} (X : Nat) (e : TypeId) (sz : Nat) {α : Type} (f : α → V) (hX : (ltN X 10000) = true) (hn : olook s.o X = none) (k : RetP ⟨s.e, (X, .arr false e sz f []) :: s.o, s.t⟩ x r o1) : RetP s x r o1

/-- The end of a function with own things. -/
def endQ (c : Ctx) (rs : List ResultVar) (r : V) (o1 : Own) : Post := fun e s =>
  match e with
  | .normal => (match resV c s rs with
    | some x => RetP s x r o1
    | none => False)
  | .ret => (match resV c s rs with
    | some x => RetP s x r o1
    | none => False)
  | _ => False

section
variable {P : Program} {c : Ctx} {z : From} {F : Nat → Prop} {β : Bt} {s : St} {tm : Array Value} {w : World}

theorem RetP.done (hr : Rl P c z F β s tm w) {v : Value} {x r : V} {o1 : Own} (hx : RA w F β s.o v x) (h : RetP s x r o1) (hhi : ∀ id ent, olook z.o id = some ent → id < 20000) : ∃ F' β', (∀ b, z.F b → F' b) ∧ (∀ b, b < z.w.heap.size → F' b → z.F b) ∧ (∀ b, F' b → b < w.heap.size) ∧
    RA w F' β' o1 v r ∧ OwnOk w F' β' o1 ∧ (∀ id, olook o1 id = none → β' id = none) ∧
    (∀ id ent b, olook o1 id = some ent → β' id = some b → z.w.heap.size ≤ b ∨ ∃ ent', olook z.o id = some ent' ∧ z.β id = some b) ∧
    (∀ id ent0 ent, olook z.o id = some ent0 → olook o1 id = some ent → pinned ent0 = true → Same z.w z.β z.o w β' o1 id id) := by
  induction h generalizing F β with
  | box X cs hX he hd k ih =>
    obtain ⟨F1, β1, g1, _, g2⟩ := hr.box (by simpa using hX) he hd
    exact ih g1 (g2 _ _ hx)
  | add X e sz f hX hn k ih => exact ih (hr.addNil (by simpa using hX) hn false e sz f) (ra_addNil hn false e sz f hx)
  | mk outs fz hc hs ho hl =>
  rename_i s x r o1
  simp only [retOk, Bool.and_eq_true] at hc
  obtain ⟨⟨⟨⟨⟨⟨hnX, hnC⟩, hco1⟩, ho1c⟩, hlow⟩, hXs⟩, hsame⟩ := hc
  obtain ⟨F1, β1, h1, h2, h3⟩ := Rl.freezes fz hr (allLow_iff _ hlow)
  obtain ⟨k1, k2⟩ := h3 [x] [v] rfl (fun i u y hi hy => by
    cases i with
    | zero => simp at hi hy; subst hi; subst hy; exact hx
    | succ i => simp at hi)
  generalize frz fz s = s1 at *
  have oc0 := fun cid e0 => ocOf_look (s := s1) (σ := srn (kap outs)) outs hnC cid e0
  generalize hoc0 : ocOf outs s1 (srn (kap outs)) = oz at *
  let βc : Bt := fun cid => match iot outs cid with
    | some X => β1 X
    | none => none
  have hβc : ∀ x cid m, (x, cid, m) ∈ outs → βc cid = β1 x := fun x cid m hm => by simp only [βc, iot_of hnC hm]
  have sameIn : ∀ id e x, kap outs id = some x → olook s1.o id = some e → Same w β1 s1.o w βc oz id x := fun id e x hk he => by
    obtain ⟨m, hm⟩ := kap_mem hk
    have hz := (oc0 x (Ent.sub (srn (kap outs)) e)).2 ⟨id, m, e, hm, he, rfl⟩
    refine ⟨hβc _ _ _ hm, fun cs h => ?_, fun fx t sz α f l h => ?_, fun α f l h => by rw [he] at h; cases h; exact ⟨_, _, _, hz⟩⟩
    · rw [he] at h; cases h; exact ⟨_, hz⟩
    · rw [he] at h; cases h; exact ⟨fx, α, f, l, hz, rfl, fun b cur hb hc => ⟨cur, hc, rfl⟩⟩
  have g1 : ∀ v x, RA w F1 β1 s1.o v x → RA w F1 βc oz v (V.sub (srn (kap outs)) x) := fun v x hx => RA.ren (fun _ _ h => h) (fun id ent x hi he => sameIn id ent x hi he) hx
  have own0 : OwnOk w F1 βc oz := by
    refine ⟨fun cid e0 he => ?_, fun cid cid' b e0 e0' he he' hb hb' => ?_⟩
    · obtain ⟨x, m, e, q1, q2, rfl⟩ := (oc0 cid e0).1 he
      have hx := h1.own.ent x e q2
      cases e with
      | var cs =>
        obtain ⟨b, cv, t, u1, u2, u3, u4, u5, u6⟩ := hx
        refine ⟨b, cv, t, (hβc _ _ _ q1).trans u1, u2, u3, by simpa [V.subl_eq] using u4, u5, fun i v y hi hy => ?_⟩
        rw [V.subl_eq, List.getElem?_map, Option.map_eq_some_iff] at hy
        obtain ⟨y', hy', rfl⟩ := hy
        exact g1 _ _ (u6 i v y' hi hy')
      | arr fx t sz f l =>
        rcases hx with ⟨u1, u2⟩ | ⟨b, cur, u1, u2⟩
        · exact .inl ⟨(hβc _ _ _ q1).trans u1, u2⟩
        · exact .inr ⟨b, cur, (hβc _ _ _ q1).trans u1, u2⟩
      | map f l =>
        obtain ⟨b, es, clock, u1, u2⟩ := hx
        exact ⟨b, es, clock, (hβc _ _ _ q1).trans u1, u2⟩
    · obtain ⟨x, m, e, q1, q2, _⟩ := (oc0 cid e0).1 he
      obtain ⟨x', m', e', q3, q4, _⟩ := (oc0 cid' e0').1 he'
      rw [hβc _ _ _ q1] at hb
      rw [hβc _ _ _ q3] at hb'
      have := h1.own.inj x x' b e e' q2 q4 hb hb'
      subst this
      have r1 := kap_of hnX q1
      have r2 := kap_of hnX q3
      rw [r1] at r2; cases r2; rfl
  have hsub : ∀ id e, olook oz id = some e → ∃ e', olook o1 id = some e' ∧ EntLe o1 e e' := fun id e he => by
    have := subN_spec hs (oids_look.2 ⟨e, he⟩)
    obtain ⟨e', he'⟩ := oids_look.1 this
    obtain ⟨e1, e2, m1, m2, m3⟩ := leO_spec _ ho id e' he'
    rw [he] at m1; cases m1
    rw [he'] at m2; cases m2
    exact ⟨e', he', m3⟩
  have hnone : ∀ id, olook oz id = none → olook o1 id = none := fun id hid => by
    cases hx : olook o1 id with
    | none => rfl
    | some e => obtain ⟨e1, e2, m1, _⟩ := leO_spec _ ho id e hx; rw [hid] at m1; cases m1
  obtain ⟨own1, g2, sameZ⟩ := own_retell own0 hnone hsub
  have back : ∀ cid e0, olook o1 cid = some e0 → ∃ x m e, (x, cid, m) ∈ outs ∧ olook s1.o x = some e ∧ olook oz cid = some (Ent.sub (srn (kap outs)) e) := fun cid e0 he => by
    cases hz : olook oz cid with
    | none => rw [hnone cid hz] at he; cases he
    | some ez =>
      obtain ⟨x, m, e, q1, q2, rfl⟩ := (oc0 cid ez).1 hz
      exact ⟨x, m, e, q1, q2, rfl⟩
  refine ⟨F1, βc, h1.F0F, h1.Fnew, h1.Flt, ?_, own1, fun id hid => ?_, fun id ent b he hb => ?_, fun id ent0 ent h0 he hp => ?_⟩
  · obtain ⟨m1, m2⟩ := LePl.ra (cs := #[v]) hl (w := w) (F := F1) (β := βc) (by rw [V.subl_eq, List.length_map, k1]; rfl) (fun j u y hj hy => by
      rw [V.subl_eq, List.getElem?_map, Option.map_eq_some_iff] at hy
      obtain ⟨y', hy', rfl⟩ := hy
      exact g2 _ _ (g1 _ _ (k2 j u y' (by
        cases j with
        | zero => simpa using hj
        | succ j => simp at hj) hy')))
    exact m2 0 v r rfl rfl
  · simp only [βc]
    cases hx : iot outs id with
    | none => rfl
    | some X =>
      obtain ⟨m, hm⟩ := iot_mem hx
      obtain ⟨e, he⟩ := oids_look.1 (subN_spec hco1 (outC_mem hm))
      rw [hid] at he; cases he
  · obtain ⟨x, m, e, q1, q2, _⟩ := back id ent he
    rw [hβc _ _ _ q1] at hb
    have := List.all_eq_true.1 hsame _ q1
    simp only [Bool.or_eq_true, Bool.and_eq_true] at this
    rcases this with ⟨_, h⟩ | h
    · exact .inl (h1.nwl x e b (by simpa using h) q2 hb)
    · obtain rfl : x = id := eqN_true h
      exact h1.nw x e b q2 hb
  · obtain ⟨x, m, e, q1, q2, q3⟩ := back id ent he
    have hxid : x = id ∨ 20000 ≤ id := by
      have := List.all_eq_true.1 hsame _ q1
      simp only [Bool.or_eq_true, Bool.and_eq_true] at this
      rcases this with ⟨h, _⟩ | h
      · exact .inr (leN_true h)
      · exact .inl (eqN_true h)
    have hxid : x = id := hxid.resolve_right (by have := hhi id ent0 h0; omega)
    subst hxid
    exact (((h1.hold x ent0 e h0 q2 hp).trans (sameIn x e x (kap_of hnX q1) q2)).trans (sameZ x _ q3))

def lowO : List Nat → Bool
  | [] => true
  | x :: r => (leN 10000 x) && (ltN x 20000) && lowO r
def pinsO (pin : List Nat) : Own → Bool
  | [] => true
  | (x, e) :: r => (!(pinned e) || memN pin x) && pinsO pin r
theorem lowO_spec {l : List Nat} (h : lowO l = true) {x : Nat} (hx : memN l x = true) : 10000 ≤ x ∧ x < 20000 := by
  induction l with
  | nil => cases hx
  | cons a r ih =>
    simp only [lowO, Bool.and_eq_true] at h
    simp only [memN, Bool.or_eq_true] at hx
    rcases hx with hx | hx
    · rw [← eqN_true hx]; exact ⟨leN_true h.1.1, by simpa using h.1.2⟩
    · exact ih h.2 hx
theorem pinsO_spec {pin : List Nat} {o : Own} (h : pinsO pin o = true) {x : Nat} {e : Ent} (hx : olook o x = some e) (hp : pinned e = true) : memN pin x = true := by
  induction o with
  | nil => simp [olook] at hx
  | cons a r ih =>
    obtain ⟨k, v⟩ := a
    simp only [pinsO, Bool.and_eq_true, Bool.or_eq_true, Bool.not_eq_true'] at h
    simp only [olook] at hx
    cases hb : (eqN k x) with
    | true =>
      rw [hb] at hx
      simp only [cond_true, Option.some.injEq] at hx
      subst hx
      rw [← eqN_true hb]
      exact h.1.resolve_left (by rw [hp]; simp)
    | false => rw [hb] at hx; exact ih h.2 hx

def notCond : V → Bool
  | .opt _ _ _ => false
  | .nb _ => false
  | _ => true
def notConds : List V → Bool
  | [] => true
  | x :: r => notCond x && notConds r
theorem notConds_spec {l : List V} (h : notConds l = true) : ∀ x, x ∈ l → (∀ t b v, x ≠ .opt t b v) ∧ ∀ b, x ≠ .nb b := by
  induction l with
  | nil => simp
  | cons a r ih =>
    simp only [notConds, Bool.and_eq_true] at h
    intro x hx
    rcases List.mem_cons.1 hx with rfl | hx
    · refine ⟨fun t b v e => ?_, fun b e => ?_⟩ <;> (rw [e] at h; simp [notCond] at h)
    · exact ih h.2 x hx

/-- **A function with own things**: what is handed over ('oc'), what comes back ('r', 'o1'). -/
theorem acalls_of {f : FuncId} {fn : Func} {code : Code} {args : List V} {r : V} {oc o1 : Own} (hf : P.funcs[f]? = some fn) (hname : (fn.name == "runtime.NumGoroutine") = false) (hb : fn.body = some code) (hN : fn.ntmps = c.N) (hn : (leN args.length c.N) = true)
    (hT : TabOk P c.T) (hE : EqsOk P c.E) (hm : P.follows .mixedOrders = true) (hnc : notConds args = true) (hlow : lowO (oids oc) = true) (hpin : pinsO c.pin oc = true) (h : ∀ P', P' = P → V.wfl args → vc P' c code (endQ c fn.results.toList r o1) ⟨argsE 0 args, oc, []⟩) :
    ACalls P c.G f args oc (fun x o' => x = r ∧ o' = o1) := by
  refine ⟨⟨fn, hf, hname, by rw [hb]; rfl⟩, fun w F β vs h1 h2 hown hglob hF hdom => ?_⟩
  have hwf : V.wfl args := (V.wfl_iff _).2 fun x hx => by
    obtain ⟨i, hi⟩ := mem_of_getElem? hx
    have hlt : i < vs.size := by rw [h1]; exact (List.getElem?_eq_some_iff.1 hi).1
    exact (h2 i _ x (Array.getElem?_eq_getElem hlt) hi).wf'
  have hn := leN_true hn
  have hlo := fun id (ent : Ent) (he : olook oc id = some ent) => lowO_spec hlow (oids_look.2 ⟨ent, he⟩)
  refine callsIn_wide.1 (callsIn_of_wp_marks (n := 0) hf hb trivial (wpIn_mono (vc_sound (r := none) (n := 0) (z := ⟨w, F, β, oc, ⟨w, F, β⟩, fun _ _ => False⟩) (d := []) (m := ⟨w, F, β⟩) (pr := fun _ _ => False) hm code (.inl rfl) (h P rfl hwf) (F := F) (β := β) ?_ ⟨fun _ _ h => h, [], rfl, List.nodup_nil, fun D h => by simp at h⟩) ?_))
  · refine { n := by simp [hN]; omega, env := fun t => ?_, own := hown, F0F := fun _ h => h, Fnew := fun _ _ h => h, Flt := hF, dom := hdom, fresh := fun id ent b h hb => .inr ⟨id, ent, h, hb⟩, keep := Keep.refl _ _, glob := hglob, tab := hT, eqs := hE, low := fun id ent h => (hlo id ent h).1,
             pins := fun id ent h hp => pinsO_spec hpin h hp, zlt := hF, nw := fun id ent b h hb => .inr ⟨ent, h, hb⟩, hold := fun id e0 e h0 h hp => ?_, mk0 := Nat.le_refl _, mk1 := fun b _ hn => ⟨rfl, hn⟩, prot := fun _ _ h => h.elim, mk2 := fun id b hb _ _ => ⟨rfl, .inr ⟨hb, by
               have hb' : β id = some b := hb
               cases hx : olook oc id with
               | some e => exact ⟨e, rfl⟩
               | none => rw [hdom id hx] at hb'; cases hb'⟩⟩ }
    · exact argsE_re h1 h2 (notConds_spec hnc) t
    · have h0' : olook oc id = some e0 := h0
      rw [h] at h0'; cases h0'
      exact ⟨rfl, fun cs h => ⟨cs, h⟩, fun fx e sz α f l h => ⟨fx, α, f, l, h, rfl, fun b cur hb hc => ⟨cur, hc, rfl⟩⟩, fun α f l h => ⟨α, f, l, h⟩⟩
  · have fin : ∀ (a : Act) (w' : World) (s : St), (match resV c s fn.results.toList with
        | some x => RetP s x r o1
        | none => False) → ∀ {m pr F' β'}, Rl P c ((From.mk w F β oc ⟨w, F, β⟩ fun _ _ => False).wt m pr) F' β' s a.tmps w' → ∃ v, (results fn a.tmps).run P w' = .ok v w' ∧ ∃ v1 r1 o' F' β', Ending.returned v = .returned v1 ∧ (r1 = r ∧ o' = o1) ∧ (∀ b, F b → F' b) ∧ (∀ b, b < w.heap.size → F' b → F b) ∧ (∀ b, F' b → b < w'.heap.size) ∧
        RA w' F' β' o' v1 r1 ∧ OwnOk w' F' β' o' ∧ (∀ id, olook o' id = none → β' id = none) ∧ Keep (fun b => ∃ id ent, olook oc id = some ent ∧ β id = some b) w w' ∧
        (∀ id ent b, olook o' id = some ent → β' id = some b → w.heap.size ≤ b ∨ ∃ ent', olook oc id = some ent' ∧ β id = some b) ∧
        (∀ id ent0 ent, olook oc id = some ent0 → olook o' id = some ent → pinned ent0 = true → Same w β oc w' β' o' id id) := by
      intro a w' s hq m pr F' β' hr
      split at hq
      · rename_i x hx
        obtain ⟨v, g1, g2⟩ := results_run hr hx
        obtain ⟨F1, β1, g3, g4, g5, g6, g7, g8, g9, g10⟩ := hq.done hr g2 (fun id ent he => (hlo id ent he).2)
        exact ⟨v, g1, v, r, o1, F1, β1, rfl, ⟨rfl, rfl⟩, g3, g4, g5, g6, g7, g8, hr.keep, g9, g10⟩
      · exact hq.elim
    rintro e a w' he
    cases e with
    | normal =>
      obtain ⟨pr, ⟨_, Ds, h1, h4, h5⟩, m, F', β', s, h2, h3⟩ := he
      show LeavesInM _ _ _ _ _ _ a.defers _ _
      rw [h1, List.append_nil]
      exact leave_marks (fun hr => fin a _ s h2 hr) Ds h4 h5 h3
    | ret =>
      obtain ⟨pr, ⟨_, Ds, h1, h4, h5⟩, m, F', β', s, h2, h3⟩ := he
      show LeavesInM _ _ _ _ _ _ a.defers _ _
      rw [h1, List.append_nil]
      exact leave_marks (fun hr => fin a _ s h2 hr) Ds h4 h5 h3
    | exit i => obtain ⟨pr, h1, m, F', β', s, h2, h3⟩ := he; exact h2.elim
    | goto l => obtain ⟨pr, h1, m, F', β', s, h2, h3⟩ := he; exact h2.elim
    | panic ch => exact he.elim
    | outgrown => exact he.elim

/-- The end of a round: how it is left ('b'). -/
def endR (b : Nat) (o1 : Own) : Post := fun e s =>
  match e with
  | .normal => (match b with
    | 0 => RetP s (.tup []) (.tup []) o1
    | _ => False)
  | .ret => (match b with
    | 1 => RetP s (.tup []) (.tup []) o1
    | _ => False)
  | .exit id => bif eqN b (id + 2) then RetP s (.tup []) (.tup []) o1 else False
  | _ => False
/-- The assignments ahead of a round's body. -/
def asgQ (k : St → Prop) : Post := fun e s =>
  match e with
  | .normal => k s
  | _ => False
theorem endR_of {b : Nat} {o1 : Own} {e : Exit} {s : St} (h : endR b o1 e s) : exitNo e = some b ∧ RetP s (.tup []) (.tup []) o1 := by
  cases e with
  | normal =>
    simp only [endR] at h
    split at h
    · exact ⟨rfl, h⟩
    · exact h.elim
  | ret =>
    simp only [endR] at h
    split at h
    · exact ⟨rfl, h⟩
    · exact h.elim
  | exit id =>
    obtain ⟨h1, h2⟩ := bif_true h
    exact ⟨by rw [eqN_true h1]; rfl, h2⟩
  | goto l => exact h.elim
  | panic ch => exact h.elim
  | outgrown => exact h.elim

/-- A block that is no own thing, nor data, turns, there and at the start. -/
theorem Rl.flipW (hr : Rl P c z F β s tm w) {l : Nat} (hl : F l) (hown : ∀ id, β id ≠ some l) (hzown : ∀ id, z.β id ≠ some l) (o' : Obj) (pr0 pr' : Nat → Obj → Prop)
    (hpr : ∀ k o, pr' k o → (k ≠ l ∧ z.pr k o) ∨ (k = l ∧ o = o')) :
    Rl P c ((From.mk (z.w.putObj l o') z.F z.β z.o z.m pr0).wt ⟨w.putObj l o', F, fun _ => none⟩ pr') F β s tm (w.putObj l o') := by
  have hlt : l < w.heap.size := hr.Flt l hl
  have hsz : (w.putObj l o').heap.size = w.heap.size := World.putObj_size
  have hszz : (z.w.putObj l o').heap.size = z.w.heap.size := World.putObj_size
  have hk : ∀ b, b ≠ l → (w.putObj l o').heap[b]? = w.heap[b]? := fun b h => World.putObj_heap_other h
  have hkz : ∀ b, b ≠ l → (z.w.putObj l o').heap[b]? = z.w.heap[b]? := fun b h => World.putObj_heap_other h
  have hd : ∀ v x, RD w F v x → RD (w.putObj l o') F v x := hd_of (fun b _ hn => hk b (fun e => hn (e ▸ hl))) (fun _ _ h => h) (Nat.le_of_eq hsz.symm)
  have hblk : ∀ id e0 b, olook s.o id = some e0 → β id = some b → (w.putObj l o').heap[b]? = w.heap[b]? ∧ F b := fun id e0 b he hb =>
    ⟨hk b (fun e => hown id (e ▸ hb)), ((hr.own.ent id e0 he).blk hb).1⟩
  have hsame : ∀ id ent0, olook s.o id = some ent0 → Same w β s.o (w.putObj l o') β s.o id id := fun id ent0 he => by
    refine ⟨rfl, fun cs h => ⟨cs, h⟩, fun fx e sz α f l h => ⟨fx, α, f, l, h, rfl, fun b cur hb hc => ⟨cur, ?_, rfl⟩⟩, fun α f l h => ⟨α, f, l, h⟩⟩
    rw [(hblk id _ b h hb).1]; exact hc
  have hsameZ : ∀ id, Same (z.w.putObj l o') z.β z.o z.w z.β z.o id id := fun id => by
    refine ⟨rfl, fun cs h => ⟨cs, h⟩, fun fx e sz α f l h => ⟨fx, α, f, l, h, rfl, fun b cur hb hc => ⟨cur, ?_, rfl⟩⟩, fun α f l h => ⟨α, f, l, h⟩⟩
    rwa [hkz b (fun e => hzown id (e ▸ hb))] at hc
  have g : ∀ v x, RA w F β s.o v x → RA (w.putObj l o') F β s.o v x := fun v x hx => RA.stay hd hsame hx
  have g' : ∀ v x, RA w F β s.o v x → RA (w.putObj l o') F β s.o v (V.sub sid x) := fun v x hx => by rw [V.sub_id]; exact g v x hx
  refine { n := hr.n, env := fun t => ?_, own := ⟨fun id e0 he => ?_, hr.own.inj⟩, F0F := hr.F0F, Fnew := fun b hb h => hr.Fnew b (by have hb : b < (z.w.putObj l o').heap.size := hb; omega) h, Flt := fun b h => by rw [hsz]; exact hr.Flt b h, dom := hr.dom,
            fresh := fun id e b h1 h2 => (hr.fresh id e b h1 h2).imp_left fun h => (by show (z.w.putObj l o').heap.size ≤ b; omega), keep := ?_, glob := ⟨fun gg cs hg => hd _ _ (hr.glob.ok gg cs hg)⟩, tab := hr.tab, eqs := hr.eqs, low := hr.low, pins := hr.pins, zlt := fun b hb => (by show b < (z.w.putObj l o').heap.size; rw [hszz]; exact hr.zlt b hb),
            nw := fun id e b h1 h2 => (hr.nw id e b h1 h2).imp_left fun h => (by show (z.w.putObj l o').heap.size ≤ b; omega),
            hold := fun id ent0 e1 h0 h1 hp => ((hsameZ id).trans (hr.hold id ent0 e1 h0 h1 hp)).trans (hsame id e1 h1), mk0 := Nat.le_refl _,
            mk1 := fun b hb hn => ⟨rfl, hn⟩, mk2 := fun id b hb => (by cases hb), prot := fun k o h => ?_ }
  · have := (hr.env t).sub (σ := sid) g' (by simp [sid]) (by simp [sid]) (by simp [sid]) (by simp [sid]) (by simp [sid]) (by simp [sid])
    rwa [V.sub_id] at this
  · have := EntOk.sub (σ := sid) (o' := s.o) hd g' rfl (fun b hb => hblk id e0 b he hb) (hr.own.ent id e0 he)
    have e : Ent.sub sid e0 = e0 := by cases e0 <;> simp [Ent.sub, V.subl_id]
    rwa [e] at this
  · refine ⟨hr.keep.os, hr.keep.tape, ⟨hr.keep.output.out, hr.keep.output.drawn⟩, (by show (z.w.putObj l o').heap.size ≤ _; rw [hsz, hszz]; exact hr.keep.size), fun b hb hn => ?_⟩
    have hb : b < (z.w.putObj l o').heap.size := hb
    by_cases e : b = l
    · subst e
      rw [World.putObj_heap_same hlt]
      exact (World.putObj_heap_same (by omega)).symm
    · rw [hk b e]
      exact (hr.keep.block b (by omega) hn).trans (hkz b e).symm
  · rcases hpr k o h with ⟨h1, h2⟩ | ⟨rfl, rfl⟩
    · obtain ⟨h3, h4, h5⟩ := hr.prot k o h2
      exact ⟨h3, (hk k h1).trans h4, h5⟩
    · exact ⟨hl, World.putObj_heap_same hlt, hown⟩

/-- **A round**: what is handed over ('oc'), what comes back ('o1'). -/
theorem round_of {assign body : Code} {args : List V} {oc o1 : Own} {b : Nat} (hN : (eqN args.length c.N) = true)
    (hT : TabOk P c.T) (hE : EqsOk P c.E) (hm : P.follows .mixedOrders = true) (hpa : plainC assign = true) (hpl : plainC body = true) (hnc : notConds args = true) (hlow : lowO (oids oc) = true) (hpin : pinsO c.pin oc = true)
    (hbs : leN b 1000000 = true) (h : ∀ P', P' = P → V.wfl args → vc P' c assign (asgQ fun s => vc P' c body (endR b o1) s) ⟨argsE 0 args, oc, []⟩) :
    RoundA P c.G assign body args oc b o1 := by
  refine fun n l rc w vs F β hrec hready hFl hβl h1 h2 hown hglob hF hdom => ?_
  have hwf : V.wfl args := (V.wfl_iff _).2 fun x hx => by
    obtain ⟨i, hi⟩ := mem_of_getElem? hx
    have hlt : i < vs.size := by rw [h1]; exact (List.getElem?_eq_some_iff.1 hi).1
    exact (h2 i _ x (Array.getElem?_eq_getElem hlt) hi).wf'
  have hN := eqN_true hN
  have hlo := fun id (ent : Ent) (he : olook oc id = some ent) => lowO_spec hlow (oids_look.2 ⟨ent, he⟩)
  have start : Rl P c ((From.mk w F β oc ⟨w, F, β⟩ fun k o => k = l ∧ o = .loop rc).wt ⟨w, F, β⟩ fun k o => k = l ∧ o = .loop rc) F β ⟨argsE 0 args, oc, []⟩ vs w := by
    refine { n := h1.trans hN, env := fun t => ?_, own := hown, F0F := fun _ h => h, Fnew := fun _ _ h => h, Flt := hF, dom := hdom, fresh := fun id ent b h hb => .inr ⟨id, ent, h, hb⟩, keep := Keep.refl _ _, glob := hglob, tab := hT, eqs := hE, low := fun id ent h => (hlo id ent h).1,
             pins := fun id ent h hp => pinsO_spec hpin h hp, zlt := hF, nw := fun id ent b h hb => .inr ⟨ent, h, hb⟩, hold := fun id e0 e h0 h hp => ?_, mk0 := Nat.le_refl _, mk1 := fun b _ hn => ⟨rfl, hn⟩, prot := fun k o h => ?_, mk2 := fun id b hb _ _ => ⟨rfl, .inr ⟨hb, by
               have hb' : β id = some b := hb
               cases hx : olook oc id with
               | some e => exact ⟨e, rfl⟩
               | none => rw [hdom id hx] at hb'; cases hb'⟩⟩ }
    · have := argsE_re (N := vs.size) h1 h2 (notConds_spec hnc) t
      simpa using this
    · have h0' : olook oc id = some e0 := h0
      rw [h] at h0'; cases h0'
      exact ⟨rfl, fun cs h => ⟨cs, h⟩, fun fx e sz α f l h => ⟨fx, α, f, l, h, rfl, fun b cur hb hc => ⟨cur, hc, rfl⟩⟩, fun α f l h => ⟨α, f, l, h⟩⟩
    · obtain ⟨rfl, rfl⟩ : k = l ∧ o = .loop rc := h
      exact ⟨hFl, hrec, hβl⟩
  refine wpIn_mono (vc_sound (r := some l) (n := n) (d := []) hm assign (.inr hpa) (h P rfl hwf) (a := { tmps := vs, defers := [] }) start ⟨fun _ _ h => h, [], rfl, List.nodup_nil, fun D h => by simp at h⟩) ?_
  rintro e a1 w1 he
  cases e with
  | normal =>
    obtain ⟨pr1, ⟨hp0, Ds, hd1, hd2, hd3⟩, m1, F1, β1, s1, hk1, hr1⟩ := he
    obtain ⟨g1, g2, g3⟩ := hr1.prot l _ (hp0 l _ ⟨rfl, rfl⟩)
    refine ⟨_, run_beginRound g2 hready, ?_⟩
    have hr2 := hr1.flipW g1 g3 hβl (.loop { rc with state := .busy }) (fun k o => k = l ∧ o = .loop { rc with state := .busy }) (fun k o => (k ≠ l ∧ pr1 k o) ∨ (k = l ∧ o = .loop { rc with state := .busy })) (fun k o h => h)
    have hDl : ∀ D, D ∈ Ds → D ≠ l := fun D hD e => by
      have := (hr1.prot D _ (hd3 D hD).1).2.1
      rw [e, g2] at this; cases this
    refine wpIn_mono (vc_sound (r := some l) (n := n) (d := []) hm body (.inr hpl) hk1 hr2 ⟨fun k o h => .inr h, Ds, hd1, hd2, fun D hD => ⟨.inl ⟨hDl D hD, (hd3 D hD).1⟩, by
      have := (hd3 D hD).2
      show (w.putObj l _).heap.size ≤ D
      rw [World.putObj_size]; exact this⟩⟩) ?_
    rintro e a2 w2 he
    have fin : ∀ {pr2 m2 F2 β2 s2}, (∀ k o, (k = l ∧ o = .loop { rc with state := .busy }) → pr2 k o) → endR b o1 e s2 → Rl P c ((From.mk (w.putObj l (.loop { rc with state := .busy })) F β oc m1 fun k o => k = l ∧ o = .loop { rc with state := .busy }).wt m2 pr2) F2 β2 s2 a2.tmps w2 → (exitNo e = some b ∧ w2.heap[l]? = some (.loop { rc with state := .busy }) ∧ ∃ v1 r1 o' F' β', Ending.returned (numV b) = .returned v1 ∧ (r1 = .int .i64 (.lit b) ∧ o' = o1) ∧ (∀ b, F b → F' b) ∧ (∀ b, b < w.heap.size → F' b → F b) ∧ (∀ b, F' b → b < (w2.putObj l (.loop rc)).heap.size) ∧
        RA (w2.putObj l (.loop rc)) F' β' o' v1 r1 ∧ OwnOk (w2.putObj l (.loop rc)) F' β' o' ∧ (∀ id, olook o' id = none → β' id = none) ∧ Keep (fun b => ∃ id ent, olook oc id = some ent ∧ β id = some b) w (w2.putObj l (.loop rc)) ∧
        (∀ id ent b, olook o' id = some ent → β' id = some b → w.heap.size ≤ b ∨ ∃ ent', olook oc id = some ent' ∧ β id = some b) ∧
        (∀ id ent0 ent, olook oc id = some ent0 → olook o' id = some ent → pinned ent0 = true → Same w β oc (w2.putObj l (.loop rc)) β' o' id id)) := fun {pr2 m2 F2 β2 s2} hp hq hr => by
      obtain ⟨q1, q2, q3⟩ := hr.prot l _ (hp l _ ⟨rfl, rfl⟩)
      obtain ⟨he1, hq⟩ := endR_of hq
      have hr3 := hr.flipW q1 q3 hβl (.loop rc) (fun _ _ => False) (fun k o => k = l ∧ o = .loop rc) (fun k o h => .inr h)
      simp only [From.wt] at hr3
      rw [putObj_twice, putObj_self hrec] at hr3
      obtain ⟨F3, β3, g3, g4, g5, g6, g7, g8, g9, g10⟩ := hq.done hr3 (.d (.tuple #[]) _ (.tup #[] [] rfl (fun i c x h => by simp at h))) (fun id ent he => (hlo id ent he).2)
      exact ⟨he1, q2, numV b, .int .i64 (.lit b), o1, F3, β3, rfl, ⟨rfl, rfl⟩, g3, g4, g5, .d _ _ (.int _ _ _ rfl (by rw [has_iff]; have := leN_true hbs; simp only [lo, hi]; omega)), g7, g8, hr3.keep, g9, g10⟩
    have : ∃ pr2 m2 F2 β2 s2, (∀ k o, (k = l ∧ o = .loop { rc with state := .busy }) → pr2 k o) ∧ endR b o1 e s2 ∧ Rl P c ((From.mk (w.putObj l (.loop { rc with state := .busy })) F β oc m1 fun k o => k = l ∧ o = .loop { rc with state := .busy }).wt m2 pr2) F2 β2 s2 a2.tmps w2 := by
      cases e with
      | panic ch => exact he.elim
      | outgrown => exact he.elim
      | _ =>
        obtain ⟨pr2, ⟨hp, _⟩, m2, F2, β2, s2, hq, hr⟩ := he
        exact ⟨pr2, m2, F2, β2, s2, hp, hq, hr⟩
    obtain ⟨pr2, m2, F2, β2, s2, hp, hq, hr⟩ := this
    obtain ⟨he1, q2, rest⟩ := fin hp hq hr
    simp only [he1]
    exact ⟨q2, rest⟩
  | panic ch => exact he.elim
  | outgrown => exact he.elim
  | _ =>
    obtain ⟨pr, _, m, F', β', s, h2, h3⟩ := he
    exact h2.elim
end
end Go.Vg
/- Contracts of the kit's shelf, as answers. -/
namespace Go.Vg
open Go

/-- A function of which is known what it returns to these values, wherever; the world behind may have new blocks. -/
theorem aval_of_calls {P : Program} {G : Glb} {f : FuncId} {fn : Func} {args : List V} {r : V} {vs0 : Array Value} {v : Value} (hf : P.funcs[f]? = some fn) (hname : (fn.name == "runtime.NumGoroutine") = false) (hb : fn.body.isNone = false)
    (hargs : ∀ (w : World) (F : Nat → Prop) (β : Bt) (vs : Array Value), vs.size = args.length → (∀ (i : Nat) (v : Value) (x : V), vs[i]? = some v → args[i]? = some x → RA w F β [] v x) → vs = vs0)
    (h : ∀ w, Calls P f vs0 w (fun e w' => e = .returned v ∧ Keep (fun _ => False) w w')) (hr : ∀ w F, RD w F v r) : AVal P G f args r := by
  refine ⟨⟨fn, hf, hname, hb⟩, fun w F β vs h1 h2 hown hglob hF hdom => ?_⟩
  rw [hargs w F β vs h1 h2]
  refine (h w).mono ?_
  rintro e w' ⟨rfl, hk⟩
  exact ⟨v, r, [], F, fun _ => none, rfl, rfl, fun _ h => h, fun _ _ h => h, fun b hb => Nat.lt_of_lt_of_le (hF b hb) hk.size, .d _ _ (hr _ _), ⟨fun _ _ h => by simp [olook] at h, fun _ _ _ _ _ h => by simp [olook] at h⟩, fun _ _ => rfl,
    hk.mono fun _ h => h.elim, fun id ent b h => by simp [olook] at h, fun id e0 e h => by simp [olook] at h⟩

theorem CEq.int {k : IntKind} {e e' : IE} (h : e.den = e'.den) : CEq (.int k e) (.int k e') := fun w F v hv => by
  obtain ⟨h1, h2⟩ := RA.of_int (RA.d (β := fun _ => none) (o := []) v _ hv)
  subst h1
  exact .int _ _ _ h.symm h2
theorem CEqL.one {x y : V} (h : CEq x y) : CEqL [x] [y] := ⟨rfl, fun j a b h1 h2 => by
  cases j with
  | zero => simp at h1 h2; subst h1; subst h2; exact h
  | succ j => simp at h1⟩
theorem VEq.int {k : IntKind} {e e' : IE} (h : e.den = e'.den) : VEq (.int k e) (.int k e') := CEqL.one (CEq.int h)

theorem News.map {o : Own} {sz : Nat} {α : Type} {f : α → V} {l : List α} {x : V} (h : velems o x = some (sz, l.map f)) : News o sz f l x :=
  ⟨_, h, by simp, fun i e p he hp => by
    rw [List.getElem?_map, hp] at he
    simp at he; subst he; exact VEq.refl _⟩

/-- Arguments told otherwise. -/
theorem AVal.le {P : Program} {G : Glb} {f : FuncId} {args args' : List V} {r : V} (h : AVal P G f args' r) (hl : LePl [] args args') : AVal P G f args r :=
  ⟨h.1, fun w F β vs h1 h2 h3 h4 h5 h6 => by
    obtain ⟨g1, g2⟩ := LePl.ra (cs := vs) hl h1 h2
    exact h.2 w F β vs g1 g2 h3 h4 h5 h6⟩

/-- Two numbers as arguments. -/
theorem args_two_int {k1 k2 : IntKind} {x y : Int} (w : World) (F : Nat → Prop) (β : Bt) (vs : Array Value) (hl : vs.size = [V.int k1 (.v x), V.int k2 (.v y)].length)
    (h : ∀ (i : Nat) (v : Value) (u : V), vs[i]? = some v → [V.int k1 (.v x), V.int k2 (.v y)][i]? = some u → RA w F β [] v u) : vs = #[.int k1 x, .int k2 y] := by
  have hl2 : vs.size = 2 := by simpa using hl
  have h0 : vs[0]? = some (vs[0]'(by omega)) := Array.getElem?_eq_getElem (by omega)
  have h1 : vs[1]? = some (vs[1]'(by omega)) := Array.getElem?_eq_getElem (by omega)
  have e0 := (RA.of_int (h 0 _ _ h0 rfl)).1
  have e1 := (RA.of_int (h 1 _ _ h1 rfl)).1
  apply Array.ext
  · simpa using hl
  · intro i h1' h2'
    simp at h2'
    match i, h2' with
    | 0, _ => simpa [IE.den] using e0
    | 1, _ => simpa [IE.den] using e1

end Go.Vg
/- From an answer that is worked out, step by step, to the conditions. -/
namespace Go.Vg
open Go

/-! ### What functions are worked out with -/
/-- So many rounds at most. -/
def iterN {α A : Type} (step : α → Option (α ⊕ A)) (n : Nat) : α → Option A :=
  Nat.rec (fun _ => none) (fun _ ih a => match step a with
    | none => none
    | some (.inl a') => ih a'
    | some (.inr r) => some r) n
def ROUNDS : Nat := 1208925819614629174706176
def iter {α A : Type} (step : α → Option (α ⊕ A)) : α → Option A := iterN step ROUNDS
theorem iterN_succ {α A : Type} (step : α → Option (α ⊕ A)) (n : Nat) (a : α) : iterN step (n + 1) a = match step a with
    | none => none
    | some (.inl a') => iterN step n a'
    | some (.inr r) => some r := rfl
def W (x : Int) : Int := IntKind.i64.wrap x
def idx {α : Type} (l : List α) (i : Int) : Option α := if 0 ≤ i then l[i.toNat]? else none
def upd {α : Type} (l : List α) (i : Int) (v : α) : Option (List α) := some (l.set i.toNat v)
def updf {α : Type} (l : List α) (i : Int) (f : α → α) : Option (List α) := (idx l i).map fun p => l.set i.toNat (f p)
def sub {α : Type} (l : List α) (lo hi : Int) : Option (List α) := if 0 ≤ lo ∧ lo ≤ hi ∧ hi ≤ l.length then some ((l.drop lo.toNat).take (hi.toNat - lo.toNat)) else none
def app {α : Type} (bytes : Nat) (l xs : List α) : Option (List α) := if (l.length + xs.length) * bytes ≤ 140737488355328 then some (l ++ xs) else none
def mks {α : Type} (bytes : Nat) (n : Int) (x : α) : Option (List α) := if 0 ≤ n ∧ n.toNat * bytes ≤ 140737488355328 ∧ n.toNat ≤ LIM then some (List.replicate n.toNat x) else none
/-- So many are copied over a part of a list. -/
def cpq {α : Type} (l : List α) (i m : Int) (xs : List α) : Option (List α × Nat) := if 0 ≤ i ∧ 0 ≤ m then some (l.take i.toNat ++ (xs.take (min xs.length m.toNat) ++ l.drop (i.toNat + min xs.length m.toNat)), min xs.length m.toNat) else none
/-- A part of a list is cleared. -/
def clr {α : Type} (l : List α) (i m : Int) (z : α) : Option (List α) := if 0 ≤ i ∧ 0 < m then some (l.take i.toNat ++ (List.replicate m.toNat z ++ l.drop (i.toNat + m.toNat))) else none
def need {A : Type} (c : Bool) (k : Option A) : Option A := if c = true then k else none

section
variable {P : Program} {c : Ctx} {s : St} {A X : Type} {r : A}

theorem den_none {p : Prop} (h : (none : Option A) = some r) : p := nomatch h
theorem den_out {α : Type} {F : Option A} {x : α ⊕ A} (h : F.map Sum.inr = some x) (hx : ∀ r', x = .inr r' → r' = r) : F = some r := by
  cases F with
  | none => cases h
  | some y => rw [Option.map_some, Option.some.injEq] at h; rw [hx y h.symm]
theorem den_br {q : BE} {A1 A2 : Option A} {T E : Unit → Prop} (h : (if q.den = true then A1 else A2) = some r) (ht : q.den = true → A1 = some r → T ()) (he : q.den = false → A2 = some r → E ()) : Branch q T E :=
  ⟨fun hq => ht hq (by rwa [if_pos hq] at h), fun hq => he hq (by rwa [if_neg (by simp [hq])] at h)⟩
theorem den_chk {q : BE} {A1 : Option A} {k : Unit → Prop} (h : need q.den A1 = some r) (hk : A1 = some r → k ()) : Chk q k := by
  unfold need at h
  split at h
  · exact ⟨‹_›, hk h⟩
  · cases h
theorem idx_some {α : Type} {l : List α} {i : Int} {p : α} (h : idx l i = some p) : 0 ≤ i ∧ i < l.length ∧ l[i.toNat]? = some p := by
  unfold idx at h
  split at h
  · have := (List.getElem?_eq_some_iff.1 h).1
    exact ⟨‹_›, by omega, h⟩
  · cases h
theorem den_elem {α : Type} {f : α → V} {l : List α} {i : IE} {K : α → Option A} {k : α → Prop} (h : (idx l i.den).bind K = some r) (hk : ∀ p, idx l i.den = some p → K p = some r → k p) : ElemP f l i k := by
  obtain ⟨p, h1, h2⟩ := Option.bind_eq_some_iff.1 h
  obtain ⟨g1, g2, g3⟩ := idx_some h1
  refine ⟨g1, g2, fun q hq _ => ?_⟩
  rw [g3] at hq; cases hq
  exact hk p h1 h2
theorem den_eload {α : Type} {f : α → V} {l : List α} {i : IE} {K : α → Option A} {k : α → Prop} (h : (idx l i.den).bind K = some r) (hk : ∀ p, idx l i.den = some p → K p = some r → k p) : EloadP f l i k := by
  obtain ⟨p, h1, h2⟩ := Option.bind_eq_some_iff.1 h
  obtain ⟨g1, g2, g3⟩ := idx_some h1
  refine ⟨fun q hq _ => ?_⟩
  rw [g3] at hq; cases hq
  exact hk p h1 h2
/-- A whole element is stored. -/
theorem den_estore {α : Type} {f : α → V} {l : List α} {i : IE} {off : Nat} {cs : List V} {K : List α → Option A} {k : List α → Prop} (v : α) (h : (upd l i.den v).bind K = some r) (hv : ∀ p, CEqL (setAt (cells (f p)) off cs) (cells (f v)))
    (hk : ∀ l', upd l i.den v = some l' → K l' = some r → k l') : EstoreP f l i off cs k :=
  ⟨fun p _ _ => ⟨v, hv p, fun l' hl => by subst hl; exact hk _ rfl h⟩⟩
/-- A part of an element is stored. -/
theorem den_estore' {α : Type} {f : α → V} {l : List α} {i : IE} {off : Nat} {cs : List V} {K : List α → Option A} {k : List α → Prop} (v : α → α) (h : (updf l i.den v).bind K = some r) (hv : ∀ p, CEqL (setAt (cells (f p)) off cs) (cells (f (v p))))
    (hk : ∀ l', updf l i.den v = some l' → K l' = some r → k l') : EstoreP f l i off cs k := by
  obtain ⟨l', h1, h2⟩ := Option.bind_eq_some_iff.1 h
  have h0 := h1
  unfold updf at h1
  obtain ⟨p, h3, h4⟩ := Option.map_eq_some_iff.1 h1
  obtain ⟨g1, g2, g3⟩ := idx_some h3
  refine ⟨fun q hq _ => ?_⟩
  rw [g3] at hq; cases hq
  exact ⟨v p, hv p, fun l'' hl => by rw [hl, h4]; exact hk l' h0 h2⟩
theorem sub_some {α : Type} {l l' : List α} {lo hi : Int} (h : sub l lo hi = some l') : 0 ≤ lo ∧ lo ≤ hi ∧ hi ≤ l.length ∧ l' = (l.drop lo.toNat).take (hi.toNat - lo.toNat) := by
  unfold sub at h
  split at h
  · rename_i hc
    cases h
    exact ⟨hc.1, hc.2.1, hc.2.2, rfl⟩
  · cases h
theorem den_sub {α : Type} {l : List α} {lo hi : IE} {K : List α → Option A} {k : List α → Prop} (h : (sub l lo.den hi.den).bind K = some r) (hk : ∀ l', sub l lo.den hi.den = some l' → K l' = some r → k l') : SubP l lo hi k := by
  obtain ⟨l', h1, h2⟩ := Option.bind_eq_some_iff.1 h
  obtain ⟨g1, g2, g3, g4⟩ := sub_some h1
  refine ⟨lo.den.toNat, hi.den.toNat, by omega, by omega, by omega, by omega, fun q hq => ?_⟩
  rw [← g4] at hq; subst hq
  exact hk _ h1 h2
theorem den_elemS {e : SE} {i : IE} {K : UInt8 → Option A} {k : UInt8 → Prop} (h : (idx e.den i.den).bind K = some r) (hk : ∀ b, idx e.den i.den = some b → K b = some r → k b) : ElemS e i k := by
  obtain ⟨p, h1, h2⟩ := Option.bind_eq_some_iff.1 h
  obtain ⟨g1, g2, g3⟩ := idx_some h1
  refine ⟨g1, by simpa using g2, fun q hq => ?_⟩
  rw [g3] at hq; cases hq
  exact hk p h1 h2
theorem den_str {o : Own} {x : V} {k : List UInt8 → Prop} (K : List UInt8 → Option A) (f : Int → V) (xs : List Int) (hx : News o 1 f xs x) (hf : ∀ n, f n = .int .u8 (.v n)) (h : K (bstr xs) = some r) (hk : ∀ bs, bs = bstr xs → K bs = some r → k bs) : StrP o x k :=
  ⟨f, xs, hx, hf, fun bs e => hk bs e (by rw [e]; exact h)⟩
theorem den_subo_f {α : Type} {l : List α} {lo hi : IE} {K : List α → Option A} {k : List α → Prop} {kv : IE → IE → Prop} {kt : List α → Prop} (h : (sub l lo.den hi.den).bind K = some r) (hk : ∀ l', sub l lo.den hi.den = some l' → K l' = some r → k l') : SubO l lo hi k kv kt :=
  .freeze (den_sub h hk)
theorem den_subo_v {α : Type} {l : List α} {lo hi : IE} {K : List α → Option A} {k : List α → Prop} {kv : IE → IE → Prop} {kt : List α → Prop} (h : (sub l lo.den hi.den).bind K = some r)
    (hk : ∀ (l' : List α) (i m : Int), i = lo.den → m = hi.den - lo.den → sub l lo.den hi.den = some l' → K l' = some r → kv (.v i) (.v m)) : SubO l lo hi k kv kt := by
  obtain ⟨l', h1, h2⟩ := Option.bind_eq_some_iff.1 h
  obtain ⟨g1, g2, g3, g4⟩ := sub_some h1
  exact .view (.v lo.den) (.v (hi.den - lo.den)) rfl rfl g1 g2 g3 (hk l' _ _ rfl rfl h1 h2)
theorem den_subo_t {α : Type} {l : List α} {lo hi : IE} {K : List α → Option A} {k : List α → Prop} {kv : IE → IE → Prop} {kt : List α → Prop} (h : (sub l lo.den hi.den).bind K = some r) (h0 : lo.den = 0) (hk : ∀ l', sub l lo.den hi.den = some l' → K l' = some r → kt l') : SubO l lo hi k kv kt := by
  obtain ⟨l', h1, h2⟩ := Option.bind_eq_some_iff.1 h
  obtain ⟨g1, g2, g3, g4⟩ := sub_some h1
  refine .take h0 hi.den.toNat (by omega) (by omega) fun q hq => ?_
  have : q = l' := by rw [hq, g4, h0]; simp
  rw [this]; exact hk l' h1 h2

theorem app_some {α : Type} {b : Nat} {l xs l' : List α} (h : app b l xs = some l') : (l.length + xs.length) * b ≤ 140737488355328 ∧ l' = l ++ xs := by
  unfold app at h
  split at h
  · cases h; exact ⟨‹_›, rfl⟩
  · cases h
theorem den_app_nil {α : Type} {bytes sz : Nat} {el : TypeId} {x : V} {o : Own} {xs : List α} {K : List α → Option A} {kn : Nat → (α : Type) → (α → V) → List α → Prop} {k : (α : Type) → (α → V) → List α → Prop} (i : Nat) (f : α → V) (h : (app bytes [] xs).bind K = some r) (hx : News o sz f xs x) (hk : ∀ l', app bytes [] xs = some l' → K l' = some r → kn i α f l') : AppP bytes sz el .nilsl x o kn k := by
  obtain ⟨l', h1, h2⟩ := Option.bind_eq_some_iff.1 h
  obtain ⟨g1, g2⟩ := app_some h1
  refine .nil i f xs rfl hx (by simpa using g1) fun q hq => ?_
  have : q = l' := by rw [hq, g2]; rfl
  rw [this]; exact hk l' h1 h2
theorem den_app_own {α : Type} {bytes sz : Nat} {el : TypeId} {x : V} {o : Own} {id : Nat} {l xs : List α} {K : List α → Option A} {kn : Nat → (α : Type) → (α → V) → List α → Prop} {k : (α : Type) → (α → V) → List α → Prop} (f : α → V) (h : (app bytes l xs).bind K = some r) (ho : olook o id = some (.arr false el sz f l)) (hx : News o sz f xs x) (hk : ∀ l', app bytes l xs = some l' → K l' = some r → k α f l') : AppP bytes sz el (.osl id) x o kn k := by
  obtain ⟨l', h1, h2⟩ := Option.bind_eq_some_iff.1 h
  obtain ⟨g1, g2⟩ := app_some h1
  refine .own f l xs id rfl ho hx g1 fun q hq => ?_
  rw [hq, ← g2]; exact hk l' h1 h2
theorem mks_some {α : Type} {b : Nat} {n : Int} {x : α} {l : List α} (h : mks b n x = some l) : 0 ≤ n ∧ n.toNat * b ≤ 140737488355328 ∧ n.toNat ≤ LIM ∧ l = List.replicate n.toNat x := by
  unfold mks at h
  split at h
  · rename_i hc; cases h; exact ⟨hc.1, hc.2.1, hc.2.2, rfl⟩
  · cases h
theorem den_make {α : Type} {bytes : Nat} {n : IE} {zero : List V} {x : α} {K : List α → Option A} {k : (α : Type) → (α → V) → List α → Prop} (f : α → V) (h : (mks bytes n.den x).bind K = some r) (hz : CEqL zero (cells (f x))) (hk : ∀ l, mks bytes n.den x = some l → K l = some r → k α f l) : MakeP bytes n zero k := by
  obtain ⟨l', h1, h2⟩ := Option.bind_eq_some_iff.1 h
  obtain ⟨g1, g2, g3, g4⟩ := mks_some h1
  refine .mk f x n.den.toNat (by omega) g2 g3 hz fun q hq => ?_
  rw [hq, ← g4]; exact hk l' h1 h2

theorem den_makeL {α : Type} {bytes : Nat} {n : IE} {zero : List V} {x : α} {k : (α : Type) → (α → V) → List α → Prop} (m : Nat) (K : List α → Option A) (f : α → V) (h : K (List.replicate m x) = some r) (hn : n.den = (m : Int)) (hb : m * bytes ≤ 140737488355328) (hm : m ≤ LIM) (hz : CEqL zero (cells (f x))) (hk : ∀ l, l = List.replicate m x → K l = some r → k α f l) : MakeP bytes n zero k :=
  .mk f x m hn hb hm hz fun l hl => hk l hl (by rw [hl]; exact h)
theorem den_call {f : FuncId} {vs data lent : List V} {ids : List Nat} {k : Out → Prop} {F : Option X} {K : X → Option A} (enc : X → V) (args : List V) (h : F.bind K = some r) (hv : ∀ x, F = some x → AVal P c.G f args (enc x)) (hle : LePl [] data args) (hl : allLow ids = true) (hd : isDatal data = true) (hr : ∀ x, isData (enc x) = true) (hk : ∀ x, F = some x → K x = some r → k ⟨enc x, ids, []⟩) : CallP P c f vs s data lent ids k := by
  obtain ⟨x, h1, h2⟩ := Option.bind_eq_some_iff.1 h
  exact .data (enc x) (AVal.le (hv x h1) hle) hl hd (hr x) fun _ => hk x h1 h2
theorem den_lend {f : FuncId} {vs data lent : List V} {ids : List Nat} {k : Out → Prop} {F : Option X} {K : X → Option A} (enc : X → V) (args : List V) (h : F.bind K = some r) (hv : ∀ x, F = some x → AVal P c.G f args (enc x)) (hle : LePl [] lent args) (hr : ∀ x, flat (enc x) = true) (hk : ∀ x, F = some x → K x = some r → k ⟨enc x, [], []⟩) : CallP P c f vs s data lent ids k := by
  obtain ⟨x, h1, h2⟩ := Option.bind_eq_some_iff.1 h
  exact .lend (enc x) (AVal.le (hv x h1) hle) (hr x) fun _ => hk x h1 h2
/-- Own things are handed over, and handed back. -/
theorem den_own {f : FuncId} {vs data lent : List V} {ids : List Nat} {k : Out → Prop} {F : Option X} {K : X → Option A} (outs : Outs) (fz : List Nat) (enc : X → V) (oc : Own) (o1 : X → Own) (args : List V) (h : F.bind K = some r) (hv : ∀ x, F = some x → ACalls P c.G f args oc (fun y o' => y = enc x ∧ o' = o1 x)) (hc : ∀ x, ownOk c outs fz (frz fz s) oc (o1 x) = true) (hl : LePl oc (V.subl (srn (kap (insO outs))) (subFz fz s vs)) args) (hs : subN (oids (ocOf (insO outs) (frz fz s) (srn (kap (insO outs))))) (oids oc) = true) (ho : leO oc (ocOf (insO outs) (frz fz s) (srn (kap (insO outs)))) oc) (hk : ∀ x, F = some x → K x = some r → k ⟨V.sub (srn (iot outs)) (enc x), fz, twice (usOf outs (o1 x) (srn (iot outs)))⟩) : CallP P c f vs s data lent ids k := by
  obtain ⟨x, h1, h2⟩ := Option.bind_eq_some_iff.1 h
  exact .own outs fz args oc (o1 x) (enc x) (hv x h1) (hc x) hl hs ho fun _ => hk x h1 h2

theorem den_view {α : Type} {l : List α} {lo hi : IE} {K : List α → Option A} {k : IE → IE → Prop} (h : (sub l lo.den hi.den).bind K = some r) (hk : ∀ (l' : List α) (i m : Int), i = lo.den → m = hi.den - lo.den → sub l lo.den hi.den = some l' → K l' = some r → k (.v i) (.v m)) : ViewP l lo hi k := by
  obtain ⟨l', h1, h2⟩ := Option.bind_eq_some_iff.1 h
  obtain ⟨g1, g2, g3, g4⟩ := sub_some h1
  exact .mk (.v lo.den) (.v (hi.den - lo.den)) rfl rfl g1 g2 g3 (hk l' _ _ rfl rfl h1 h2)
theorem cpq_some {α : Type} {l : List α} {i m : Int} {xs : List α} {c : List α × Nat} (h : cpq l i m xs = some c) : 0 ≤ i ∧ 0 ≤ m ∧ c.2 = min xs.length m.toNat ∧ c.1 = l.take i.toNat ++ (xs.take c.2 ++ l.drop (i.toNat + c.2)) := by
  unfold cpq at h
  split at h
  · rename_i hc; cases h; exact ⟨hc.1, hc.2, rfl, rfl⟩
  · cases h
theorem den_copy {α : Type} {l xs : List α} {id : Nat} {fx : Bool} {e : TypeId} {sz : Nat} {x d : V} {o : Own} {A0 : Option A} {K : List α × Nat → Option A} {k0 : Unit → Prop} {k : (id : Nat) → Bool → TypeId → (α : Type) → (α → V) → List α → Nat → Prop} (f : α → V) (i m : Int)
    (h : (cpq l i m xs).bind (fun c => if decide (0 < c.2) = true then K c else A0) = some r) (ho : olook o id = some (.arr fx e sz f l)) (hd : (d = .osl id ∧ i = 0 ∧ m = l.length) ∨ ∃ lo n, d = .view id lo n ∧ lo.den = i ∧ n.den = m) (hx : News o sz f xs x)
    (h0 : A0 = some r → k0 ()) (hk : ∀ c : List α × Nat, cpq l i m xs = some c → K c = some r → k id fx e α f c.1 c.2) : CopyP sz d x o k0 k := by
  obtain ⟨c, h1, h2⟩ := Option.bind_eq_some_iff.1 h
  obtain ⟨g1, g2, g3, g4⟩ := cpq_some h1
  by_cases hc : 0 < c.2
  · rw [if_pos (by simpa using hc)] at h2
    refine .some f l xs id fx e i.toNat m.toNat c.2 ho ?_ hx g3 hc fun l' hl' => ?_
    · rcases hd with ⟨q1, q2, q3⟩ | ⟨lo, n, q1, q2, q3⟩
      · exact .inl ⟨q1, by omega, by omega⟩
      · exact .inr ⟨lo, n, q1, by omega, by omega⟩
    · rw [hl', ← g4]; exact hk c h1 h2
  · rw [if_neg (by simpa using hc)] at h2
    obtain ⟨es, n1, n2, n3⟩ := hx
    have hd' : ∃ es', velems o d = some (sz, es') ∧ (m.toNat = 0 → es' = []) := by
      rcases hd with ⟨q1, q2, q3⟩ | ⟨lo, n, q1, q2, q3⟩
      · subst q1
        refine ⟨l.map f, by simp [velems, ho], fun hm => ?_⟩
        have : l.length = 0 := by omega
        simp [List.eq_nil_of_length_eq_zero this]
      · subst q1
        refine ⟨_, by simp only [velems, ho]; rfl, fun hm => ?_⟩
        rw [q3, hm]; simp
    obtain ⟨es', m1, m2⟩ := hd'
    refine .none sz sz es es' n1 m1 ?_ (h0 h2)
    rcases Nat.eq_zero_or_pos xs.length with hz | hz
    · left; exact List.eq_nil_of_length_eq_zero (by omega)
    · right; exact m2 (by omega)
theorem den_clear {α : Type} {l : List α} {id : Nat} {fx : Bool} {e : TypeId} {sz : Nat} {zero : List V} {d : V} {o : Own} {A0 : Option A} {K : List α → Option A} {k0 : Unit → Prop} {k : (id : Nat) → Bool → TypeId → (α : Type) → (α → V) → List α → Prop} (f : α → V) (i m : Int) (z : α)
    (h : (if decide (0 < m) = true then (clr l i m z).bind K else A0) = some r) (ho : olook o id = some (.arr fx e sz f l)) (hd : (d = .osl id ∧ i = 0 ∧ m = l.length) ∨ ∃ lo n, d = .view id lo n ∧ lo.den = i ∧ n.den = m) (hz : CEqL zero (cells (f z)))
    (h0 : A0 = some r → k0 ()) (hk : ∀ l', clr l i m z = some l' → K l' = some r → k id fx e α f l') : ClearP sz zero d o k0 k := by
  by_cases hc : 0 < m
  · rw [if_pos (by simpa using hc)] at h
    obtain ⟨l', h1, h2⟩ := Option.bind_eq_some_iff.1 h
    have h3 := h1
    unfold clr at h3
    split at h3
    · rename_i hi
      cases h3
      refine .some f l id fx e i.toNat m.toNat z ho ?_ (by omega) hz fun l' hl' => ?_
      · rcases hd with ⟨q1, q2, q3⟩ | ⟨lo, n, q1, q2, q3⟩
        · exact .inl ⟨q1, by omega, by omega⟩
        · exact .inr ⟨lo, n, q1, by omega, by omega⟩
      · rw [hl']; exact hk _ h1 h2
    · cases h3
  · rw [if_neg (by simpa using hc)] at h
    rcases hd with ⟨q1, q2, q3⟩ | ⟨lo, n, q1, q2, q3⟩
    · subst q1
      have : l.length = 0 := by omega
      refine .none sz ?_ (h0 h)
      simp [velems, ho, List.eq_nil_of_length_eq_zero this]
    · subst q1
      refine .none sz ?_ (h0 h)
      simp only [velems, ho, q3, show m.toNat = 0 by omega]
      simp
theorem den_nil {α : Type} {l : List α} {A1 : Option A} {k : Bool → Prop} (h : A1 = some r) (ht : A1 = some r → l = [] → k true) (hf : A1 = some r → k false) : NilP l k := ⟨fun hl => ht h hl, hf h⟩

theorem iterN_mono {α A : Type} {step : α → Option (α ⊕ A)} {r : A} : ∀ {n m : Nat} {a : α}, n ≤ m → iterN step n a = some r → iterN step m a = some r
  | 0, _, _, _, h => nomatch h
  | n + 1, 0, _, hle, _ => absurd hle (by omega)
  | n + 1, m + 1, a, hle, h => by
    rw [iterN_succ] at h ⊢
    cases hx : step a with
    | none => rw [hx] at h; cases h
    | some x =>
      rw [hx] at h
      cases x with
      | inl a' => exact iterN_mono (by omega) h
      | inr r' => exact h
/-- It comes to this end. -/
def Ends {α A : Type} (step : α → Option (α ⊕ A)) (r : A) (a : α) : Prop := ∃ n, iterN step n a = some r
noncomputable def rounds {α A : Type} (step : α → Option (α ⊕ A)) (r : A) (a : α) : Nat := by
  classical exact if h : Ends step r a then Classical.choose (min_of h) else 0
theorem Ends.next {α A : Type} {step : α → Option (α ⊕ A)} {r : A} {a a' : α} (h : Ends step r a) (hs : step a = some (.inl a')) : Ends step r a' ∧ rounds step r a' < rounds step r a := by
  have h1 : iterN step (rounds step r a) a = some r := by
    unfold rounds
    rw [dif_pos h]
    exact (Classical.choose_spec (min_of h)).1
  generalize rounds step r a = n at h1
  cases n with
  | zero => cases h1
  | succ n =>
    rw [iterN_succ, hs] at h1
    have h2 : Ends step r a' := ⟨n, h1⟩
    refine ⟨h2, ?_⟩
    unfold rounds
    rw [dif_pos h2]
    exact Nat.lt_succ_of_le ((Classical.choose_spec (min_of h2)).2 n h1)
theorem Ends.last {α A : Type} {step : α → Option (α ⊕ A)} {r : A} {a : α} (h : Ends step r a) : ∃ x, step a = some x ∧ ∀ r', x = .inr r' → r' = r := by
  obtain ⟨n, h⟩ := h
  cases n with
  | zero => cases h
  | succ n =>
    rw [iterN_succ] at h
    cases hx : step a with
    | none => rw [hx] at h; cases h
    | some x =>
      rw [hx] at h
      exact ⟨x, rfl, fun r' e => by subst e; exact Option.some.inj h⟩
theorem den_loop {α : Type} {body : St → (St → Prop) → Prop} {a0 : α} (step : α → Option (α ⊕ A)) (h : iter step a0 = some r) (S : α → St) (hs : ∀ j, j = a0 → leSt s (S j))
    (hb : ∀ (E : α → Prop) (m : α → Nat) (a : α) (x : α ⊕ A), step a = some x → (∀ a', x = .inl a' → E a' ∧ m a' < m a) → (∀ r', x = .inr r' → r' = r) → body (S a) (fun s' => ∃ a', E a' ∧ m a' < m a ∧ leSt s' (S a'))) : LoopP body s := by
  refine .mk S (Ends step r) (rounds step r) a0 ⟨_, h⟩ (hs _ rfl) fun a ha => ?_
  obtain ⟨x, h1, h2⟩ := ha.last
  exact hb _ _ a x h1 (fun a' e => by subst e; exact ha.next h1) h2
theorem den_back {α : Type} {E : α → Prop} {m : α → Nat} {S : α → St} {a a' : α} {x : α ⊕ A} (h : some (Sum.inl a') = some x) (hb : ∀ a', x = .inl a' → E a' ∧ m a' < m a) (hl : ∀ j, j = a' → leSt s (S j)) :
    ∃ a', E a' ∧ m a' < m a ∧ leSt s (S a') := ⟨a', (hb a' (Option.some.inj h).symm).1, (hb a' (Option.some.inj h).symm).2, hl _ rfl⟩
theorem den_join {J : Type} {S : J → St} {K : J → Option A} {j : J} (h : K j = some r) (hl : ∀ j', j' = j → leSt s (S j')) : ∃ a, K a = some r ∧ leSt s (S a) := ⟨j, h, hl _ rfl⟩
theorem den_cut {J : Type} {run : (St → Prop) → Prop} {k : St → Prop} (S : J → St) (K : J → Option A) (h : run (fun s' => ∃ a, K a = some r ∧ leSt s' (S a))) (hk : ∀ j, K j = some r → k (S j)) : SeqP run k := .cut S (fun j => K j = some r) h hk
end

/-! ### Values told otherwise -/
theorem CEq.of_lep {x y : V} (h : LeP [] x y) (hy : isData y = true) : CEq x y := fun _ _ _ hv => (h.ra (β := fun _ => none) (.d _ _ hv)).data hy
theorem CEqL.of_lepl {xs ys : List V} (h : LePl [] xs ys) (hy : isDatal ys = true) : CEqL xs ys := by
  induction xs generalizing ys with
  | nil => cases h; exact ⟨rfl, fun j x y h => by simp at h⟩
  | cons a l ih =>
    cases h with
    | cons _ b _ ys' h1 h2 =>
      simp only [isDatal, Bool.and_eq_true] at hy
      have := ih h2 hy.2
      refine ⟨by simp [this.1], fun j x y hx hy' => ?_⟩
      cases j with
      | zero => simp at hx hy'; subst hx; subst hy'; exact CEq.of_lep h1 hy.1
      | succ j => exact this.2 j x y (by simpa using hx) (by simpa using hy')
theorem VEq.of_lepl {a b : V} (h : LePl [] (cells a) (cells b)) (hb : isDatal (cells b) = true) : VEq a b := CEqL.of_lepl h hb
inductive Vls {α : Type} (f : α → V) : List V → List α → Prop
  | nil : Vls f [] []
  | cons (v : V) (a : α) (vs : List V) (l : List α) (h : VEq v (f a)) (t : Vls f vs l) : Vls f (v :: vs) (a :: l)
theorem Vls.spec {α : Type} {f : α → V} {vs : List V} {l : List α} (h : Vls f vs l) : vs.length = l.length ∧ ∀ (i : Nat) (e : V) (p : α), vs[i]? = some e → l[i]? = some p → VEq e (f p) := by
  induction h with
  | nil => exact ⟨rfl, fun i e p h => by simp at h⟩
  | cons v a vs l h _ ih =>
    refine ⟨by simp [ih.1], fun i e p he hp => ?_⟩
    cases i with
    | zero => simp at he hp; subst he; subst hp; exact h
    | succ i => exact ih.2 i e p (by simpa using he) (by simpa using hp)
theorem LeP.sls {o : Own} {sz : Nat} {α : Type} {f : α → V} {vs : List V} {l : List α} (h : Vls f vs l) : LeP o (.sls sz vs) (.sl sz f l) := .sl' sz _ vs rfl f l h.spec.1 h.spec.2
theorem News.sls {o : Own} {sz : Nat} {α : Type} {f : α → V} {vs : List V} {l : List α} (h : Vls f vs l) : News o sz f l (.sls sz vs) := ⟨vs, rfl, h.spec.1, h.spec.2⟩

theorem den_elemV {A : Type} {r : A} {α : Type} {f : α → V} {vs : List V} {l : List α} {i : IE} {K : α → Option A} {k : V → Prop} (hvs : Vls f vs l) (h : (idx l i.den).bind K = some r) (hk : ∀ p, idx l i.den = some p → K p = some r → k (f p)) : ElemV vs i k := by
  obtain ⟨p, h1, h2⟩ := Option.bind_eq_some_iff.1 h
  obtain ⟨g1, g2, g3⟩ := idx_some h1
  refine .mk f l hvs.spec.1 hvs.spec.2 g1 (by rw [hvs.spec.1]; exact g2) fun q hq => ?_
  rw [g3] at hq; cases hq
  exact hk p h1 h2
theorem den_split {A : Type} {r : A} (j : Nat) {i : IE} {n : Nat} {A1 A2 : Option A} {k : Nat → Prop} (hj : ltN j n = true) (h : (if (i.den == (j : Int)) = true then A1 else A2) = some r) (ht : A1 = some r → k j) (he : A2 = some r → SplitI i n k) : SplitI i n k := by
  split at h
  · rename_i hc
    exact ⟨j, hj, by simpa using hc, ht h⟩
  · exact he h
theorem den_suba {A : Type} {r : A} {α : Type} {ys : List V} {lo hi : IE} {K : List α → Option A} {k : (α : Type) → (α → V) → List α → Prop} (f : α → V) (l : List α) (hv : Vls f ys l) (h : (sub l lo.den hi.den).bind K = some r) (hk : ∀ l', sub l lo.den hi.den = some l' → K l' = some r → k α f l') : SubA ys lo hi k :=
  .mk f l hv.spec.1 hv.spec.2 (den_sub h hk)
theorem den_subs {A : Type} {r : A} {e : SE} {lo hi : IE} {K : List UInt8 → Option A} {k : List UInt8 → Prop} (h : (sub e.den lo.den hi.den).bind K = some r) (hk : ∀ l', sub e.den lo.den hi.den = some l' → K l' = some r → k l') : SubS e lo hi k := by
  obtain ⟨l', h1, h2⟩ := Option.bind_eq_some_iff.1 h
  obtain ⟨g0, g1, g2, rfl⟩ := sub_some h1
  exact .mk g0 g1 g2 (hk _ h1 h2)
theorem den_build {A : Type} {r : A} {sz : Nat} {vs : List V} {kd : Prop} {k : (α : Type) → (α → V) → List α → Prop} {α : Type} (K : List α → Option A) (f : α → V) (l : List α) (hv : Vls f vs l) (h : K l = some r) (hk : ∀ l', l' = l → K l' = some r → k α f l') : BuildP sz vs kd k :=
  .own f l hv.spec.1 hv.spec.2 fun l' e => hk l' e (by rw [e]; exact h)

/-! ### Data as values -/
def e_i8 (n : Int) : V := .int .i8 (.v n)
def e_i16 (n : Int) : V := .int .i16 (.v n)
def e_i32 (n : Int) : V := .int .i32 (.v n)
def e_i64 (n : Int) : V := .int .i64 (.v n)
def e_u8 (n : Int) : V := .int .u8 (.v n)
def e_u16 (n : Int) : V := .int .u16 (.v n)
def e_u32 (n : Int) : V := .int .u32 (.v n)
def e_u64 (n : Int) : V := .int .u64 (.v n)
def e_bool (b : Bool) : V := .bool (.v b)
def e_str (s : List UInt8) : V := .str (.v s)
def e_sl {α : Type} (sz : Nat) (f : α → V) (l : List α) : V := .sl sz f l
structure Arr1 (α : Type) where
  a0 : α
structure Arr2 (α : Type) where
  a0 : α
  a1 : α
structure Arr3 (α : Type) where
  a0 : α
  a1 : α
  a2 : α
structure Arr4 (α : Type) where
  a0 : α
  a1 : α
  a2 : α
  a3 : α
def e_arr1 {α : Type} (f : α → V) (x : Arr1 α) : V := .agg (cells (f x.a0))
def e_arr2 {α : Type} (f : α → V) (x : Arr2 α) : V := .agg (cells (f x.a0) ++ cells (f x.a1))
def e_arr3 {α : Type} (f : α → V) (x : Arr3 α) : V := .agg (cells (f x.a0) ++ (cells (f x.a1) ++ cells (f x.a2)))
def e_arr4 {α : Type} (f : α → V) (x : Arr4 α) : V := .agg (cells (f x.a0) ++ (cells (f x.a1) ++ (cells (f x.a2) ++ cells (f x.a3))))
/-- Greater arrays: by their places. -/
def cellsN {α : Type} (f : α → V) (x : Nat → α) : Nat → Nat → List V
  | _, 0 => []
  | i, n + 1 => cells (f (x i)) ++ cellsN f x (i + 1) n
def e_arrn {α : Type} (n : Nat) (f : α → V) (x : Nat → α) : V := .agg (cellsN f x 0 n)
def arrn {α : Type} [Inhabited α] (l : List α) (i : Nat) : α := l.getD i default
end Go.Vg
/- Reckoning with answers: rounds, and numbers of 64 bits. -/
namespace Go.Vg
open Go

section
variable {α A : Type} {step : α → Option (α ⊕ A)}
/-- **A loop's answer**: what holds at each head, what grows less, what holds at the end. -/
theorem iterN_of (I : α → Prop) (m : α → Nat) (Q : A → Prop) (h : ∀ a, I a → (∃ a', step a = some (.inl a') ∧ I a' ∧ m a' < m a) ∨ ∃ r, step a = some (.inr r) ∧ Q r) :
    ∀ (n : Nat) (a : α), I a → m a < n → ∃ r, iterN step n a = some r ∧ Q r
  | 0, a, _, hn => by omega
  | n + 1, a, ha, hn => by
    rw [iterN_succ]
    rcases h a ha with ⟨a', h1, h2, h3⟩ | ⟨r, h1, h2⟩
    · rw [h1]; exact iterN_of I m Q h n a' h2 (by omega)
    · rw [h1]; exact ⟨r, rfl, h2⟩
theorem iter_of (I : α → Prop) (m : α → Nat) (Q : A → Prop) (h : ∀ a, I a → (∃ a', step a = some (.inl a') ∧ I a' ∧ m a' < m a) ∨ ∃ r, step a = some (.inr r) ∧ Q r) {a0 : α} (h0 : I a0) (hm : m a0 < ROUNDS) :
    ∃ r, iter step a0 = some r ∧ Q r := iterN_of I m Q h ROUNDS a0 h0 hm
theorem iter_eq (I : α → Prop) (m : α → Nat) (r : A) (h : ∀ a, I a → (∃ a', step a = some (.inl a') ∧ I a' ∧ m a' < m a) ∨ step a = some (.inr r)) {a0 : α} (h0 : I a0) (hm : m a0 < ROUNDS) : iter step a0 = some r := by
  obtain ⟨r', h1, h2⟩ := iter_of I m (· = r) (fun a ha => (h a ha).imp_right fun e => ⟨r, e, rfl⟩) h0 hm
  rw [h1, h2]
end
theorem W_id {x : Int} (h1 : -9223372036854775808 ≤ x) (h2 : x ≤ 9223372036854775807) : W x = x := wrap64 h1 h2
theorem idx_ok {α : Type} {l : List α} {i : Nat} {x : α} (h : l[i]? = some x) : idx l (i : Int) = some x := by
  unfold idx; rw [if_pos (by omega)]; simpa using h
theorem app_ok {α : Type} {b : Nat} {l xs : List α} (h : (l.length + xs.length) * b ≤ 140737488355328) : app b l xs = some (l ++ xs) := if_pos h
theorem mks_ok {α : Type} {b n : Nat} {x : α} (h : n * b ≤ 140737488355328) (h' : n ≤ LIM) : mks b (n : Int) x = some (List.replicate n x) := by
  unfold mks; rw [if_pos ⟨by omega, by simpa using h, by simpa using h'⟩]; simp
theorem sub_ok {α : Type} {l : List α} {i j : Nat} (h : i ≤ j) (h' : j ≤ l.length) : sub l (i : Int) (j : Int) = some ((l.drop i).take (j - i)) := by
  unfold sub; rw [if_pos ⟨by omega, by omega, by omega⟩]; simp
theorem need_ok {A : Type} {c : Bool} {k : Option A} (h : c = true) : need c k = k := if_pos h
theorem lt_ROUNDS {n : Nat} (h : n ≤ 1000000000000000000000) : n < ROUNDS := by unfold ROUNDS; omega
end Go.Vg
/- A range over a function, from an answer that is worked out. -/
namespace Go.Vg
open Go

/-- An empty list that has room. -/
def growF (n : Int) : Option (List Int) := if 0 ≤ n ∧ n ≤ 140737488355328 then some [] else none
theorem LePl.refl (o : Own) : ∀ l : List V, LePl o l l
  | [] => .nil
  | x :: r => .cons _ _ _ _ (.same x) (LePl.refl o r)
/-- Round after round; a round may end the function. -/
def foldR {E X R A : Type} (step : E → X → Option (X ⊕ R)) (done : X → Option A) (ret : R → Option A) : List E → X → Option A
  | [], x => done x
  | e :: l, x => match step e x with
    | none => none
    | some (.inl x') => foldR step done ret l x'
    | some (.inr q) => ret q
def isL {X R : Type} : X ⊕ R → Bool
  | .inl _ => true
  | .inr _ => false
def sumO {X R : Type} (oI : X → Own) (oR : R → Own) : X ⊕ R → Own
  | .inl x => oI x
  | .inr q => oR q

/-- So many parts. -/
def chunkN {α : Type} (n : Nat) (l : List α) : List (List α) := (List.range ((l.length + n - 1) / n)).map fun k => (l.drop (k * n)).take n
def chunkF {α : Type} (l : List α) (n : Int) : Option (List (List α)) := if 1 ≤ n ∧ n ≤ 140737488355328 ∧ l.length ≤ 140737488355328 then some (chunkN n.toNat l) else none


section
variable {P : Program} {c : Ctx} {s : St} {E X R A : Type} {r : A} {Q : Post} {g : Operand} {ps : Array Tmp} {assign body : Code}

theorem den_bind {F : Option X} {K : X → Option A} {p : Prop} (h : F.bind K = some r) (hk : ∀ x, F = some x → K x = some r → p) : p := by
  cases F with
  | none => cases h
  | some x => exact hk x rfl h
theorem den_fold {step : E → X → Option (X ⊕ R)} {done : X → Option A} {ret : R → Option A} {ES : List E} {x0 : X} (h : foldR step done ret ES x0 = some r) (encE : E → List V) (S : X → St) (SR : R → St) (jm : Nat) (gf : FuncId) (caps : List V)
    (hg : res s.e [] (evalO c s.e g) = .fn gf [] caps) (hd : isDatal caps = true) (hseq : SeqA P gf caps (ES.map encE)) (hlen : ∀ e, (encE e).length = ps.size ∧ isDatal (encE e) = true) (hs : leSt s (S x0))
    (hr : ∀ e x y, step e x = some y → RoundP P c assign body ps.toList (S x) (encE e) (fun s' => ∃ x', y = .inl x' ∧ leSt s' (S x')) (fun je s' => ∃ q, y = .inr q ∧ je = noExit (jm + 1) ∧ leSt s' (SR q)))
    (hret : ∀ q, ret q = some r → Q (noExit (jm + 1)) (SR q)) (hq : ∀ x, done x = some r → Q .normal (S x)) : RangeP P c g ps assign body Q s := by
  refine .mk S (fun k x => foldR step done ret (ES.drop k) x = some r) gf caps (ES.map encE) x0 hg hd hseq (by simpa using h) hs (fun k es x hes hx => ?_) (fun x hx => ?_)
  · rw [List.getElem?_map, Option.map_eq_some_iff] at hes
    obtain ⟨e, he, rfl⟩ := hes
    refine ⟨(hlen e).1, (hlen e).2, ?_⟩
    have hdr : ES.drop k = e :: ES.drop (k + 1) := by
      have hk := (List.getElem?_eq_some_iff.1 he)
      rw [← hk.2]; exact List.drop_eq_getElem_cons hk.1
    rw [hdr] at hx
    simp only [foldR] at hx
    cases hst : step e x with
    | none => rw [hst] at hx; cases hx
    | some y =>
      rw [hst] at hx
      obtain ⟨outs, args, oc, o1, b, g4, g5, g6, g7, g8, g9⟩ := hr e x y hst
      refine .mk outs args oc o1 b g4 g5 g6 g7 g8 ?_
      cases b with
      | zero =>
        obtain ⟨x', rfl, hle⟩ := g9
        exact ⟨x', hx, hle⟩
      | succ b =>
        obtain ⟨q, rfl, he, hle⟩ := g9
        exact ⟨SR q, hle, he ▸ hret q hx⟩
  · rw [List.length_map, List.drop_length] at hx
    exact hq x hx
/-- By which answer a round is left. -/
def codeR {X R : Type} (jm : Nat) : X ⊕ R → Nat
  | .inl _ => 0
  | .inr _ => jm + 1

/-- One round. -/
theorem den_round {y : X ⊕ R} {S : X → St} {SR : R → St} {es : List V} (jm : Nat) (outs : Outs) (args : List V) (oc : Own) (oI : X → Own) (oR : R → Own)
    (hl : LePl oc (V.subl (srn (kap (insO outs))) (slotsV 0 c.N (putPs c ps.toList es s).e)) args) (hcI : ∀ x, ownOk c outs [] s oc (oI x) = true) (hcR : ∀ q, ownOk c outs [] s oc (oR q) = true)
    (hs : subN (oids (ocOf (insO outs) s (srn (kap (insO outs))))) (oids oc) = true) (ho : leO oc (ocOf (insO outs) s (srn (kap (insO outs)))) oc)
    (hA : RoundA P c.G assign body args oc (codeR jm y) (sumO oI oR y))
    (hkI : ∀ x, leSt (s.after ⟨.junk, [], twice (usOf outs (oI x) (srn (iot outs)))⟩) (S x)) (hkR : ∀ q, leSt (s.after ⟨.junk, [], twice (usOf outs (oR q) (srn (iot outs)))⟩) (SR q)) :
    RoundP P c assign body ps.toList s es (fun s' => ∃ x', y = .inl x' ∧ leSt s' (S x')) (fun je s' => ∃ q, y = .inr q ∧ je = noExit (jm + 1) ∧ leSt s' (SR q)) := by
  cases y with
  | inl x => exact .mk outs args oc (oI x) 0 hl (hcI x) hs ho hA ⟨x, rfl, hkI x⟩
  | inr q => exact .mk outs args oc (oR q) (jm + 1) hl (hcR q) hs ho hA ⟨q, rfl, rfl, hkR q⟩
end
end Go.Vg
/- Iterators of the program's own: what they hand over. -/
namespace Go.Vg
open Go
/-- Parts of a block: each one's number, where it begins, and ends. -/
def partsN (block order skip : Nat) : List (Int × Arr2 Int) := (List.range (2 ^ order)).map fun (i : Nat) => (Int.ofNat i, (⟨max 0 (Int.ofNat (i * (block / 2 ^ order)) - Int.ofNat skip), Int.ofNat ((i + 1) * (block / 2 ^ order)) - Int.ofNat skip⟩ : Arr2 Int))
def partsF (block order skip : Int) : Option (List (Int × Arr2 Int)) := if 0 ≤ block ∧ block ≤ 65535 ∧ 0 ≤ order ∧ order ≤ 15 ∧ 0 ≤ skip ∧ skip ≤ 65535 then some (partsN block.toNat order.toNat skip.toNat) else none
/-- A list's elements, the last one first. -/
def backN (l : List Int) : List (Int × Int) := (List.range l.length).map fun (i : Nat) => (Int.ofNat i, l.getD (l.length - 1 - i) 0)
def backF (l : List Int) : Option (List (Int × Int)) := some (backN l)
theorem ACalls.glb {P : Program} {G : Glb} {f : FuncId} {args : List V} {o : Own} {R : V → Own → Prop} (h : ACalls P [] f args o R) : ACalls P G f args o R :=
  ⟨h.1, fun w F β vs g1 g2 g3 _ g5 g6 => h.2 w F β vs g1 g2 g3 ⟨fun g cs h => by simp [glook] at h⟩ g5 g6⟩
theorem rd_cell {w : World} {F : Nat → Prop} {v : Value} {y : V} (h : RD w F v (.rptr [y])) : ∃ B o u, v = .pointer (some ⟨B, o, none⟩) ∧ ¬ F B ∧ B < w.heap.size ∧ w.cell? ⟨B, o, none⟩ = some u ∧ RD w F u y := by
  generalize hx : V.rptr [y] = x at h
  cases h with
  | nilsl x sz hx' => subst hx; simp [V.elems] at hx'
  | slice x sz es hx' => subst hx; simp [V.elems] at hx'
  | rptr a xs hs hF hb cv hone hcv hr =>
    cases hx
    obtain ⟨B, o, sp⟩ := a
    simp only at hs
    subst hs
    exact ⟨B, o, cv 0, rfl, hF, hb, hcv 0 y rfl, hr 0 y rfl⟩
  | _ => cases hx
theorem cell_of_heap {w W : World} {B o : Nat} {u : Value} (h : W.heap[B]? = w.heap[B]?) (hc : w.cell? ⟨B, o, none⟩ = some u) : W.cell? ⟨B, o, none⟩ = some u := by
  unfold World.cell? at *
  rw [h]; exact hc
theorem rd_int {w : World} {F : Nat → Prop} {v : Value} {k : IntKind} {n : Int} (h : RD w F v (.int k (.v n))) : v = .int k n ∧ k.has n := RA.of_int (RA.d (β := fun _ => none) (o := []) _ _ h)
def lett {α A : Type} (e : α) (K : α → Option A) : Option A := K e
theorem den_let {α A : Type} {r : A} {e : α} {K : α → Option A} (h : lett e K = some r) : ∃ t, e = t ∧ K t = some r := ⟨e, rfl, h⟩
theorem den_inl {A B : Type} {e : A} {x : A ⊕ B} (h : some (Sum.inl e) = some x) : ∃ t, e = t ∧ x = .inl t := by cases h; exact ⟨_, rfl, rfl⟩
theorem den_inr {A B : Type} {e : B} {x : A ⊕ B} (h : some (Sum.inr e) = some x) : ∃ t, e = t ∧ x = .inr t := by cases h; exact ⟨_, rfl, rfl⟩
end Go.Vg
/- Shorter words for printed proofs: what is alike is found by a fixed script. -/
namespace Go.Vg
open Go
/-- What is told may be told so: part by part. -/
theorem lp {p : Prop} (h : p := by
  repeat' (first
    | exact LeP.same _ | exact trivial | exact EntLe.same _ | exact LeP.int _ _ _ rfl | exact LePl.nil | exact LeP.sl _ _ _ _ rfl | exact EntLe.arr _ _ _ _ _ _ rfl | exact EntLe.map _ _ _ rfl | exact EntLe.pin _ _ _ _ _ rfl | exact EntLe.unpin _ _ _ _ _ rfl | exact LeP.bool _ _ rfl
    | exact LeP.nil _ _ _ rfl | exact LeP.str _ _ rfl | exact Vls.nil
    | refine LePl.cons _ _ _ _ ?_ ?_ | refine EntLe.var _ _ ?_ | refine LeP.agg _ _ ?_ | refine LeP.tup _ _ ?_ | refine Vls.cons _ _ _ _ ?_ ?_ | refine VEq.of_lepl ?_ rfl | refine LeP.sls ?_ | refine News.sls ?_ | refine CEqL.of_lepl ?_ rfl | refine And.intro ?_ ?_
    | exact LeP.int _ _ _ (by assumption) | exact LeP.bool _ _ (by assumption))) : p := h
section
variable {P Q : Program} {c : Ctx} {s : St} {A X : Type} {r : A}
theorem den_join' {J : Type} {S : J → St} {K : J → Option A} {j : J} (h : K j = some r) (hl : ∀ j', j' = j → leSt s (S j') := by (intro _ hj; conv => cbv); subst hj; exact lp) : ∃ a, K a = some r ∧ leSt s (S a) := ⟨j, h, hl _ rfl⟩
theorem den_back' {α : Type} {E : α → Prop} {m : α → Nat} {S : α → St} {a a' : α} {x : α ⊕ A} (h : some (Sum.inl a') = some x) (hb : ∀ a', x = .inl a' → E a' ∧ m a' < m a) (hl : ∀ j, j = a' → leSt s (S j) := by (intro _ hj; conv => cbv); subst hj; exact lp) :
    ∃ a', E a' ∧ m a' < m a ∧ leSt s (S a') := den_back h hb hl
theorem den_loop' {α : Type} {body : St → (St → Prop) → Prop} {a0 : α} (step : α → Option (α ⊕ A)) (h : iter step a0 = some r) (S : α → St)
    (hb : ∀ (E : α → Prop) (m : α → Nat) (a : α) (x : α ⊕ A), step a = some x → (∀ a', x = .inl a' → E a' ∧ m a' < m a) → (∀ r', x = .inr r' → r' = r) → body (S a) (fun s' => ∃ a', E a' ∧ m a' < m a ∧ leSt s' (S a')))
    (hs : ∀ j, j = a0 → leSt s (S j) := by (intro _ hj; conv => cbv); subst hj; exact lp) : LoopP body s := den_loop step h S hs hb
theorem den_cut' {J : Type} {run : (St → Prop) → Prop} {k : St → Prop} (K : J → Option A) (S : J → St) (h : run (fun s' => ∃ a, K a = some r ∧ leSt s' (S a))) (hk : ∀ j, K j = some r → k (S j)) : SeqP run k := den_cut S K h hk
theorem den_call' {f : FuncId} {vs data lent : List V} {ids : List Nat} {k : Out → Prop} {F : Option X} {K : X → Option A} {enc : X → V} {args : List V} (hP : P = Q) (h : F.bind K = some r) (hv : ∀ x, F = some x → AVal Q c.G f args (enc x)) (hk : ∀ x, F = some x → K x = some r → k ⟨enc x, ids, []⟩)
    (hle : LePl [] data args := by exact lp) (hl : allLow ids = true := by rfl) (hd : isDatal data = true := by rfl) (hr : ∀ x, isData (enc x) = true := by intro _; rfl) : CallP P c f vs s data lent ids k := den_call enc args h (fun x e => hP ▸ hv x e) hle hl hd hr hk
theorem den_lend' {f : FuncId} {vs data lent : List V} {ids : List Nat} {k : Out → Prop} {F : Option X} {K : X → Option A} {enc : X → V} {args : List V} (hP : P = Q) (h : F.bind K = some r) (hv : ∀ x, F = some x → AVal Q c.G f args (enc x)) (hk : ∀ x, F = some x → K x = some r → k ⟨enc x, [], []⟩)
    (hle : LePl [] lent args := by exact lp) (hr : ∀ x, flat (enc x) = true := by intro _; rfl) : CallP P c f vs s data lent ids k := den_lend enc args h (fun x e => hP ▸ hv x e) hle hr hk
theorem den_own' {f : FuncId} {vs data lent : List V} {ids : List Nat} {k : Out → Prop} {F : Option X} {K : X → Option A} {enc : X → V} {oc : Own} {o1 : X → Own} {args : List V} (outs : Outs) (fz : List Nat) (hP : P = Q) (h : F.bind K = some r) (hv : ∀ x, F = some x → ACalls Q c.G f args oc (fun y o' => y = enc x ∧ o' = o1 x))
    (hk : ∀ x, F = some x → K x = some r → k ⟨V.sub (srn (iot outs)) (enc x), fz, twice (usOf outs (o1 x) (srn (iot outs)))⟩)
    (hc : ∀ x, ownOk c outs fz (frz fz s) oc (o1 x) = true := by intro _; rfl) (hl : LePl oc (V.subl (srn (kap (insO outs))) (subFz fz s vs)) args := by (conv => cbv); exact lp) (hs : subN (oids (ocOf (insO outs) (frz fz s) (srn (kap (insO outs))))) (oids oc) = true := by rfl) (ho : leO oc (ocOf (insO outs) (frz fz s) (srn (kap (insO outs)))) oc := by (conv => cbv); exact lp) :
    CallP P c f vs s data lent ids k := den_own outs fz enc oc o1 args h (fun x e => hP ▸ hv x e) hc hl hs ho hk
theorem tab_ok {T : Tab} (l : List Nat) (h : T = tabOf P l := by kernel_rfl) (h2 : TabOk P (tabOf P l) := by exact tabOk_of (by kernel_rfl)) : TabOk P T := h ▸ h2
theorem aval_of' (T : Tab) (G : Glb) (N : Nat) {f : FuncId} {fn : Func} {code : Code} {args : List V} {r : V} (hf : P.funcs[f]? = some fn) (hT : TabOk P T) (hm : P.follows .mixedOrders = true) (h : ∀ P', P' = P → V.wfl args → vc P' ⟨T, G, N, [], []⟩ code (retQ ⟨T, G, N, [], []⟩ fn.results.toList r) ⟨argsE 0 args, [], []⟩)
    (hname : (fn.name == "runtime.NumGoroutine") = false := by kernel_rfl) (hb : fn.body = some code := by rfl) (hN : fn.ntmps = N := by rfl) (hn : (leN args.length N) = true := by rfl) (hE : EqsOk P [] := by exact eqsOk_of (by kernel_rfl)) (hd : isDatal args = true := by rfl) : AVal P G f args r :=
  aval_of (c := ⟨T, G, N, [], []⟩) hf hname hb hN hn hT hE hm hd h
theorem acalls_of' (T : Tab) (G : Glb) (N : Nat) (pin : List Nat) {f : FuncId} {fn : Func} {code : Code} {args : List V} {r : V} {oc o1 : Own} (hf : P.funcs[f]? = some fn) (hT : TabOk P T) (hm : P.follows .mixedOrders = true) (h : ∀ P', P' = P → V.wfl args → vc P' ⟨T, G, N, pin, []⟩ code (endQ ⟨T, G, N, pin, []⟩ fn.results.toList r o1) ⟨argsE 0 args, oc, []⟩)
    (hname : (fn.name == "runtime.NumGoroutine") = false := by kernel_rfl) (hb : fn.body = some code := by rfl) (hN : fn.ntmps = N := by rfl) (hn : (leN args.length N) = true := by rfl) (hE : EqsOk P [] := by exact eqsOk_of (by kernel_rfl)) (hnc : notConds args = true := by rfl) (hlow : lowO (oids oc) = true := by rfl) (hpin : pinsO pin oc = true := by rfl) :
    ACalls P G f args oc (fun x o' => x = r ∧ o' = o1) :=
  acalls_of (c := ⟨T, G, N, pin, []⟩) hf hname hb hN hn hT hE hm hnc hlow hpin h
end
end Go.Vg
/- Maps: from an answer that is worked out to the conditions. -/
namespace Go.Vg
open Go
def look1 {α : Type} (l : List (Int × α)) (i : Int) (z : α) : Option α := some ((mfind l i).getD z)
def look2 {α : Type} (l : List (Int × α)) (i : Int) (z : α) : Option (α × Bool) := some ((mfind l i).getD z, (mfind l i).isSome)
def mputq {α : Type} (l : List (Int × α)) (i : Int) (p : α) : Option (List (Int × α)) := if l.length < LIM then some (mput l i p) else none
/-- A part of a list, and where it lies. -/
def subv {α : Type} (l : List α) (lo hi : Int) : Option (List α × Int × Int) := (sub l lo hi).map fun l' => (l', lo, hi - lo)
section
variable {A : Type} {r : A}
theorem den_subo_w {α : Type} {l : List α} {lo hi : IE} {K : List α × Int × Int → Option A} {k : List α → Prop} {kv : IE → IE → Prop} {kt : List α → Prop} (h : (subv l lo.den hi.den).bind K = some r)
    (hk : ∀ v, subv l lo.den hi.den = some v → K v = some r → kv (.v v.2.1) (.v v.2.2)) : SubO l lo hi k kv kt := by
  obtain ⟨v, h1, h2⟩ := Option.bind_eq_some_iff.1 h
  have h3 := h1
  unfold subv at h3
  obtain ⟨l', h4, h5⟩ := Option.map_eq_some_iff.1 h3
  obtain ⟨g1, g2, g3, g4⟩ := sub_some h4
  have := hk v h1 h2
  subst h5
  exact .view (.v lo.den) (.v (hi.den - lo.den)) rfl rfl g1 g2 g3 this
theorem den_look {α : Type} {f : α → V} {l : List (Int × α)} {i : IE} {zz : V} {K : α → Option A} {k : α → Bool → Prop} (z : α) (h : (look1 l i.den z).bind K = some r) (hz : CEq zz (f z)) (hk : ∀ p b, look1 l i.den z = some p → K p = some r → k p b) : LookP f l i zz k :=
  ⟨z, hz, fun p b hp _ _ => by subst hp; exact hk _ _ rfl h⟩
theorem den_look2 {α : Type} {f : α → V} {l : List (Int × α)} {i : IE} {zz : V} {K : α × Bool → Option A} {k : α → Bool → Prop} (z : α) (h : (look2 l i.den z).bind K = some r) (hz : CEq zz (f z)) (hk : ∀ p b, look2 l i.den z = some (p, b) → K (p, b) = some r → k p b) : LookP f l i zz k :=
  ⟨z, hz, fun p b hp hb _ => by subst hp; subst hb; exact hk _ _ rfl h⟩
theorem den_mput {α : Type} {f : α → V} {l : List (Int × α)} {i : IE} {v : V} {K : List (Int × α) → Option A} {k : List (Int × α) → Prop} (p : α) (h : (mputq l i.den p).bind K = some r) (hv : CEq v (f p)) (hk : ∀ l', mputq l i.den p = some l' → K l' = some r → k l') : MputP f l i v k := by
  obtain ⟨l', h1, h2⟩ := Option.bind_eq_some_iff.1 h
  have h3 := h1
  unfold mputq at h3
  split at h3
  · rename_i hl
    cases h3
    exact ⟨p, hv, hl, fun l' hl' => by subst hl'; exact hk _ h1 h2⟩
  · cases h3
end
end Go.Vg
/- Texts as bytes; contracts of the shelf for texts (IndexByte, Map at small letters). -/
namespace Go.Vg
open Go

theorem den_bytes {α : Type} {e : SE} {k : List Int → Prop} {r : α} (K : List Int → Option α) (h : K (bytesI e.den) = some r) (hk : ∀ l, l = bytesI e.den → K l = some r → k l) : BytP e k :=
  ⟨fun l hl => hk l hl (by rw [hl]; exact h)⟩

/-- internal/stringslite.IndexByte. -/
def indexByteF (s : List UInt8) (c : Int) : Option Int := some (Lib.indexByte s c.toNat.toUInt8)
/-- slices.Grow of texts. -/
def growSF (n : Int) : Option (List (List UInt8)) := if 0 ≤ n ∧ n ≤ 8796093022208 then some [] else none
/-- A small letter. -/
def foldB (b : UInt8) : UInt8 := if 65 ≤ b.toNat ∧ b.toNat ≤ 90 then b + 32 else b
/-- strings.Map by small letters, where all bytes are below 128. -/
def mapSmallF (_ : Int → Option Int) (s : List UInt8) : Option (List UInt8) :=
  if s.all (fun b => decide (b.toNat < 128)) = true ∧ s.length < 35184372088832 then some (s.map foldB) else none

theorem indexByte_lt (l : List UInt8) (c : UInt8) : Lib.indexByte l c < l.length ∨ l = [] := by
  induction l with
  | nil => exact .inr rfl
  | cons b l ih =>
    refine .inl ?_
    unfold Lib.indexByte
    split
    · simp only [List.length_cons]; omega
    · split
      · simp only [List.length_cons]; omega
      · rcases ih with h | rfl
        · simp only [List.length_cons]; omega
        · simp [Lib.indexByte] at *

theorem keep_below {w w' : World} (hL : Loose = true) (h : Go.RowKit.Below w.heap.size w w') : Keep (fun _ => False) w w' :=
  ⟨h.os, h.tape, ⟨h.output, .inl hL⟩, h.size, fun b hb _ => h.block b hb⟩
/-- Laid variables lie as they lay. -/
theorem glb_later {G : Glb} {w W : World} {F : Nat → Prop} (hL : Loose = true) (h : GlbOk G w F) (hb : Go.RowKit.Below w.heap.size w W) : GlbOk G W (fun _ => False) :=
  ⟨fun g cs hg => (h.ok g cs hg).keep (keep_below hL hb) (fun _ h => h.elim) (fun _ _ h => h.elim)⟩

/-- A function of which is known what it returns to these values, where the laid variables lie. -/
theorem aval_of_calls_g {P : Program} {G : Glb} {f : FuncId} {fn : Func} {args : List V} {r : V} {vs0 : Array Value} {v : Value} (hf : P.funcs[f]? = some fn) (hname : (fn.name == "runtime.NumGoroutine") = false) (hb : fn.body.isNone = false)
    (hargs : ∀ (w : World) (F : Nat → Prop) (β : Bt) (vs : Array Value), vs.size = args.length → (∀ (i : Nat) (v : Value) (x : V), vs[i]? = some v → args[i]? = some x → RA w F β [] v x) → vs = vs0)
    (h : ∀ w F, GlbOk G w F → Calls P f vs0 w (fun e w' => e = .returned v ∧ Keep (fun _ => False) w w')) (hr : ∀ w F, RD w F v r) : AVal P G f args r := by
  refine ⟨⟨fn, hf, hname, hb⟩, fun w F β vs h1 h2 hown hglob hF hdom => ?_⟩
  rw [hargs w F β vs h1 h2]
  refine (h w F hglob).mono ?_
  rintro e w' ⟨rfl, hk⟩
  exact ⟨v, r, [], F, fun _ => none, rfl, rfl, fun _ h => h, fun _ _ h => h, fun b hb => Nat.lt_of_lt_of_le (hF b hb) hk.size, .d _ _ (hr _ _), ⟨fun _ _ h => by simp [olook] at h, fun _ _ _ _ _ h => by simp [olook] at h⟩, fun _ _ => rfl,
    hk.mono fun _ h => h.elim, fun id ent b h => by simp [olook] at h, fun id e0 e h => by simp [olook] at h⟩
end Go.Vg
