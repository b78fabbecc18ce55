/- Functions that are handed own things, and hand own things back. -/
import Derived.Test.YtnapnedfhimikaaDoorVgXa
set_option maxRecDepth 4000
set_option linter.all false
set_option linter.unusedVariables false
set_option linter.unusedSimpArgs false
namespace Go.Vg
open Go

def retOk (outs : Outs) (fz : List Nat) (s1 : St) (o1 : Own) : Bool :=
  nodupN (outX outs) && nodupN (outC outs) && subN (outC outs) (oids o1) && subN (oids o1) (outC outs) && allLow fz && subN (outX outs) (oids s1.o) && outs.all fun q => (leN 20000 q.2.1) || (eqN q.1 q.2.1)

/-- What is handed back, and what became of what was handed over. -/
inductive RetP : St → V → V → Own → Prop
  | mk {s : St} {x r : V} {o1 : Own} (outs : Outs) (fz : List Nat) (hc : retOk outs fz (frz fz s) o1 = true) (hs : subN (oids (ocOf outs (frz fz s) (srn (kap outs)))) (oids o1) = true) (ho : leO o1 (ocOf outs (frz fz s) (srn (kap outs))) o1)
      (hl : LePl o1 (V.subl (srn (kap outs)) (subFz fz s [x])) [r]) : RetP s x r o1
  /-- A variable is told as cells that nobody turns. -/
  | box {s : St} {x r : V} {o1 : Own} (X : Nat) (cs : List V) (hX : (ltN X 10000) = true) (he : olook s.o X = some (.var cs)) (hd : isDatal cs = true) (k : RetP (boxE s X cs) (V.sub (sbox X cs) x) r o1) : RetP s x r o1
  /-- A list that is empty is told of. -/
  | add {s : St} {x r : V} {o1 : Own} (X : Nat) (e : TypeId) (sz : Nat) {α : Type} (f : α → V) (hX : (ltN X 10000) = true) (hn : olook s.o X = none) (k : RetP ⟨s.e, (X, .arr false e sz f []) :: s.o, s.t⟩ x r o1) : RetP s x r o1

/-- The end of a function with own things. -/
def endQ (c : Ctx) (rs : List ResultVar) (r : V) (o1 : Own) : Post := fun e s =>
  match e with
  | .normal => (match resV c s rs with
    | some x => RetP s x r o1
    | none => False)
  | .ret => (match resV c s rs with
    | some x => RetP s x r o1
    | none => False)
  | _ => False

section
variable {P : Program} {c : Ctx} {z : From} {F : Nat → Prop} {β : Bt} {s : St} {tm : Array Value} {w : World}

theorem RetP.done (hr : Rl P c z F β s tm w) {v : Value} {x r : V} {o1 : Own} (hx : RA w F β s.o v x) (h : RetP s x r o1) (hhi : ∀ id ent, olook z.o id = some ent → id < 20000) : ∃ F' β', (∀ b, z.F b → F' b) ∧ (∀ b, b < z.w.heap.size → F' b → z.F b) ∧ (∀ b, F' b → b < w.heap.size) ∧
    RA w F' β' o1 v r ∧ OwnOk w F' β' o1 ∧ (∀ id, olook o1 id = none → β' id = none) ∧
    (∀ id ent b, olook o1 id = some ent → β' id = some b → z.w.heap.size ≤ b ∨ z.S b) ∧
    (∀ id ent0 ent, olook z.o id = some ent0 → olook o1 id = some ent → pinned ent0 = true → Same z.w z.β z.o w β' o1 id id) := by
  induction h generalizing F β with
  | box X cs hX he hd k ih =>
    obtain ⟨F1, β1, g1, g2⟩ := hr.box (by simpa using hX) he hd
    exact ih g1 (g2 _ _ hx)
  | add X e sz f hX hn k ih => exact ih (hr.addNil (by simpa using hX) hn false e sz f) (ra_addNil hn false e sz f hx)
  | mk outs fz hc hs ho hl =>
  rename_i s x r o1
  simp only [retOk, Bool.and_eq_true] at hc
  obtain ⟨⟨⟨⟨⟨⟨hnX, hnC⟩, hco1⟩, ho1c⟩, hlow⟩, hXs⟩, hsame⟩ := hc
  obtain ⟨F1, β1, h1, h2, h3⟩ := Rl.freezes fz hr (allLow_iff _ hlow)
  obtain ⟨k1, k2⟩ := h3 [x] [v] rfl (fun i u y hi hy => by
    cases i with
    | zero => simp at hi hy; subst hi; subst hy; exact hx
    | succ i => simp at hi)
  generalize frz fz s = s1 at *
  have oc0 := fun cid e0 => ocOf_look (s := s1) (σ := srn (kap outs)) outs hnC cid e0
  generalize hoc0 : ocOf outs s1 (srn (kap outs)) = oz at *
  let βc : Bt := fun cid => match iot outs cid with
    | some X => β1 X
    | none => none
  have hβc : ∀ x cid m, (x, cid, m) ∈ outs → βc cid = β1 x := fun x cid m hm => by simp only [βc, iot_of hnC hm]
  have sameIn : ∀ id e x, kap outs id = some x → olook s1.o id = some e → Same w β1 s1.o w βc oz id x := fun id e x hk he => by
    obtain ⟨m, hm⟩ := kap_mem hk
    have hz := (oc0 x (Ent.sub (srn (kap outs)) e)).2 ⟨id, m, e, hm, he, rfl⟩
    refine ⟨hβc _ _ _ hm, fun cs h => ?_, fun fx t sz α f l h => ?_⟩
    · rw [he] at h; cases h; exact ⟨_, hz⟩
    · rw [he] at h; cases h; exact ⟨fx, α, f, l, hz, rfl, fun b cur hb hc => ⟨cur, hc, rfl⟩⟩
  have g1 : ∀ v x, RA w F1 β1 s1.o v x → RA w F1 βc oz v (V.sub (srn (kap outs)) x) := fun v x hx => RA.ren (fun _ _ h => h) (fun id ent x hi he => sameIn id ent x hi he) hx
  have own0 : OwnOk w F1 βc oz := by
    refine ⟨fun cid e0 he => ?_, fun cid cid' b e0 e0' he he' hb hb' => ?_⟩
    · obtain ⟨x, m, e, q1, q2, rfl⟩ := (oc0 cid e0).1 he
      have hx := h1.own.ent x e q2
      cases e with
      | var cs =>
        obtain ⟨b, cv, t, u1, u2, u3, u4, u5, u6⟩ := hx
        refine ⟨b, cv, t, (hβc _ _ _ q1).trans u1, u2, u3, by simpa [V.subl_eq] using u4, u5, fun i v y hi hy => ?_⟩
        rw [V.subl_eq, List.getElem?_map, Option.map_eq_some_iff] at hy
        obtain ⟨y', hy', rfl⟩ := hy
        exact g1 _ _ (u6 i v y' hi hy')
      | arr fx t sz f l =>
        rcases hx with ⟨u1, u2⟩ | ⟨b, cur, u1, u2⟩
        · exact .inl ⟨(hβc _ _ _ q1).trans u1, u2⟩
        · exact .inr ⟨b, cur, (hβc _ _ _ q1).trans u1, u2⟩
    · obtain ⟨x, m, e, q1, q2, _⟩ := (oc0 cid e0).1 he
      obtain ⟨x', m', e', q3, q4, _⟩ := (oc0 cid' e0').1 he'
      rw [hβc _ _ _ q1] at hb
      rw [hβc _ _ _ q3] at hb'
      have := h1.own.inj x x' b e e' q2 q4 hb hb'
      subst this
      have r1 := kap_of hnX q1
      have r2 := kap_of hnX q3
      rw [r1] at r2; cases r2; rfl
  have hsub : ∀ id e, olook oz id = some e → ∃ e', olook o1 id = some e' ∧ EntLe o1 e e' := fun id e he => by
    have := subN_spec hs (oids_look.2 ⟨e, he⟩)
    obtain ⟨e', he'⟩ := oids_look.1 this
    obtain ⟨e1, e2, m1, m2, m3⟩ := leO_spec _ ho id e' he'
    rw [he] at m1; cases m1
    rw [he'] at m2; cases m2
    exact ⟨e', he', m3⟩
  have hnone : ∀ id, olook oz id = none → olook o1 id = none := fun id hid => by
    cases hx : olook o1 id with
    | none => rfl
    | some e => obtain ⟨e1, e2, m1, _⟩ := leO_spec _ ho id e hx; rw [hid] at m1; cases m1
  obtain ⟨own1, g2, sameZ⟩ := own_retell own0 hnone hsub
  have back : ∀ cid e0, olook o1 cid = some e0 → ∃ x m e, (x, cid, m) ∈ outs ∧ olook s1.o x = some e ∧ olook oz cid = some (Ent.sub (srn (kap outs)) e) := fun cid e0 he => by
    cases hz : olook oz cid with
    | none => rw [hnone cid hz] at he; cases he
    | some ez =>
      obtain ⟨x, m, e, q1, q2, rfl⟩ := (oc0 cid ez).1 hz
      exact ⟨x, m, e, q1, q2, rfl⟩
  refine ⟨F1, βc, h1.F0F, h1.Fnew, h1.Flt, ?_, own1, fun id hid => ?_, fun id ent b he hb => ?_, fun id ent0 ent h0 he hp => ?_⟩
  · obtain ⟨m1, m2⟩ := LePl.ra (cs := #[v]) hl (w := w) (F := F1) (β := βc) (by rw [V.subl_eq, List.length_map, k1]; rfl) (fun j u y hj hy => by
      rw [V.subl_eq, List.getElem?_map, Option.map_eq_some_iff] at hy
      obtain ⟨y', hy', rfl⟩ := hy
      exact g2 _ _ (g1 _ _ (k2 j u y' (by
        cases j with
        | zero => simpa using hj
        | succ j => simp at hj) hy')))
    exact m2 0 v r rfl rfl
  · simp only [βc]
    cases hx : iot outs id with
    | none => rfl
    | some X =>
      obtain ⟨m, hm⟩ := iot_mem hx
      obtain ⟨e, he⟩ := oids_look.1 (subN_spec hco1 (outC_mem hm))
      rw [hid] at he; cases he
  · obtain ⟨x, m, e, q1, q2, _⟩ := back id ent he
    rw [hβc _ _ _ q1] at hb
    exact h1.fresh x e b q2 hb
  · obtain ⟨x, m, e, q1, q2, q3⟩ := back id ent he
    have hxid : x = id ∨ 20000 ≤ id := by
      have := List.all_eq_true.1 hsame _ q1
      simp only [Bool.or_eq_true] at this
      rcases this with h | h
      · exact .inr (leN_true h)
      · exact .inl (eqN_true h)
    have hxid : x = id := hxid.resolve_right (by have := hhi id ent0 h0; omega)
    subst hxid
    exact (((h1.hold x ent0 e h0 q2 hp).trans (sameIn x e x (kap_of hnX q1) q2)).trans (sameZ x _ q3))

def lowO : List Nat → Bool
  | [] => true
  | x :: r => (leN 10000 x) && (ltN x 20000) && lowO r
def pinsO (pin : List Nat) : Own → Bool
  | [] => true
  | (x, e) :: r => (!(pinned e) || memN pin x) && pinsO pin r
theorem lowO_spec {l : List Nat} (h : lowO l = true) {x : Nat} (hx : memN l x = true) : 10000 ≤ x ∧ x < 20000 := by
  induction l with
  | nil => cases hx
  | cons a r ih =>
    simp only [lowO, Bool.and_eq_true] at h
    simp only [memN, Bool.or_eq_true] at hx
    rcases hx with hx | hx
    · rw [← eqN_true hx]; exact ⟨leN_true h.1.1, by simpa using h.1.2⟩
    · exact ih h.2 hx
theorem pinsO_spec {pin : List Nat} {o : Own} (h : pinsO pin o = true) {x : Nat} {e : Ent} (hx : olook o x = some e) (hp : pinned e = true) : memN pin x = true := by
  induction o with
  | nil => simp [olook] at hx
  | cons a r ih =>
    obtain ⟨k, v⟩ := a
    simp only [pinsO, Bool.and_eq_true, Bool.or_eq_true, Bool.not_eq_true'] at h
    simp only [olook] at hx
    cases hb : (eqN k x) with
    | true =>
      rw [hb] at hx
      simp only [cond_true, Option.some.injEq] at hx
      subst hx
      rw [← eqN_true hb]
      exact h.1.resolve_left (by rw [hp]; simp)
    | false => rw [hb] at hx; exact ih h.2 hx

def notCond : V → Bool
  | .opt _ _ _ => false
  | .nb _ => false
  | _ => true
def notConds : List V → Bool
  | [] => true
  | x :: r => notCond x && notConds r
theorem notConds_spec {l : List V} (h : notConds l = true) : ∀ x, x ∈ l → (∀ t b v, x ≠ .opt t b v) ∧ ∀ b, x ≠ .nb b := by
  induction l with
  | nil => simp
  | cons a r ih =>
    simp only [notConds, Bool.and_eq_true] at h
    intro x hx
    rcases List.mem_cons.1 hx with rfl | hx
    · refine ⟨fun t b v e => ?_, fun b e => ?_⟩ <;> (rw [e] at h; simp [notCond] at h)
    · exact ih h.2 x hx

/-- **A function with own things**: what is handed over ('oc'), what comes back ('r', 'o1'). -/
theorem acalls_of {f : FuncId} {fn : Func} {code : Code} {args : List V} {r : V} {oc o1 : Own} (hf : P.funcs[f]? = some fn) (hname : (fn.name == "runtime.NumGoroutine") = false) (hb : fn.body = some code) (hN : fn.ntmps = c.N) (hn : (leN args.length c.N) = true)
    (hT : TabOk P c.T) (hE : EqsOk P c.E) (hm : P.follows .mixedOrders = true) (hnc : notConds args = true) (hlow : lowO (oids oc) = true) (hpin : pinsO c.pin oc = true) (h : ∀ P', P' = P → V.wfl args → vc P' c code (endQ c fn.results.toList r o1) ⟨argsE 0 args, oc, []⟩) :
    ACalls P c.G f args oc (fun x o' => x = r ∧ o' = o1) := by
  refine ⟨⟨fn, hf, hname, by rw [hb]; rfl⟩, fun w F β vs h1 h2 hown hglob hF hdom => ?_⟩
  have hwf : V.wfl args := (V.wfl_iff _).2 fun x hx => by
    obtain ⟨i, hi⟩ := mem_of_getElem? hx
    have hlt : i < vs.size := by rw [h1]; exact (List.getElem?_eq_some_iff.1 hi).1
    exact (h2 i _ x (Array.getElem?_eq_getElem hlt) hi).wf'
  have hn := leN_true hn
  have hlo := fun id (ent : Ent) (he : olook oc id = some ent) => lowO_spec hlow (oids_look.2 ⟨ent, he⟩)
  refine callsIn_wide.1 (callsIn_of_wp_marks (n := 0) hf hb trivial (wpIn_mono (vc_sound (r := none) (n := 0) (z := ⟨w, F, β, oc, ⟨w, F, β⟩, fun _ _ => False⟩) (d := []) (m := ⟨w, F, β⟩) (pr := fun _ _ => False) hm code (.inl rfl) (h P rfl hwf) (F := F) (β := β) ?_ ⟨[], rfl, List.nodup_nil, fun D h => by simp at h⟩) ?_))
  · refine { n := by simp [hN]; omega, env := fun t => ?_, own := hown, F0F := fun _ h => h, Fnew := fun _ _ h => h, Flt := hF, dom := hdom, fresh := fun id ent b h hb => .inr ⟨id, ent, h, hb⟩, keep := Keep.refl _ _, glob := hglob, tab := hT, eqs := hE, low := fun id ent h => (hlo id ent h).1,
             pins := fun id ent h hp => pinsO_spec hpin h hp, zlt := hF, nw := fun id ent b hlt h _ => by have := (hlo id ent h).1; omega, hold := fun id e0 e h0 h hp => ?_, mk0 := Nat.le_refl _, mk1 := fun b _ hn => ⟨rfl, hn⟩, prot := fun _ _ h => h.elim, mk2 := fun id b hb _ _ => ⟨rfl, .inr ⟨hb, by
               have hb' : β id = some b := hb
               cases hx : olook oc id with
               | some e => exact ⟨e, rfl⟩
               | none => rw [hdom id hx] at hb'; cases hb'⟩⟩ }
    · exact argsE_re h1 h2 (notConds_spec hnc) t
    · have h0' : olook oc id = some e0 := h0
      rw [h] at h0'; cases h0'
      exact ⟨rfl, fun cs h => ⟨cs, h⟩, fun fx e sz α f l h => ⟨fx, α, f, l, h, rfl, fun b cur hb hc => ⟨cur, hc, rfl⟩⟩⟩
  · have fin : ∀ (a : Act) (w' : World) (s : St), (match resV c s fn.results.toList with
        | some x => RetP s x r o1
        | none => False) → ∀ {m pr F' β'}, Rl P c ((From.mk w F β oc ⟨w, F, β⟩ fun _ _ => False).wt m pr) F' β' s a.tmps w' → ∃ v, (results fn a.tmps).run P w' = .ok v w' ∧ ∃ v1 r1 o' F' β', Ending.returned v = .returned v1 ∧ (r1 = r ∧ o' = o1) ∧ (∀ b, F b → F' b) ∧ (∀ b, b < w.heap.size → F' b → F b) ∧ (∀ b, F' b → b < w'.heap.size) ∧
        RA w' F' β' o' v1 r1 ∧ OwnOk w' F' β' o' ∧ (∀ id, olook o' id = none → β' id = none) ∧ Keep (fun b => ∃ id ent, olook oc id = some ent ∧ β id = some b) w w' ∧
        (∀ id ent b, olook o' id = some ent → β' id = some b → w.heap.size ≤ b ∨ ∃ id' ent', olook oc id' = some ent' ∧ β id' = some b) ∧
        (∀ id ent0 ent, olook oc id = some ent0 → olook o' id = some ent → pinned ent0 = true → Same w β oc w' β' o' id id) := by
      intro a w' s hq m pr F' β' hr
      split at hq
      · rename_i x hx
        obtain ⟨v, g1, g2⟩ := results_run hr hx
        obtain ⟨F1, β1, g3, g4, g5, g6, g7, g8, g9, g10⟩ := hq.done hr g2 (fun id ent he => (hlo id ent he).2)
        exact ⟨v, g1, v, r, o1, F1, β1, rfl, ⟨rfl, rfl⟩, g3, g4, g5, g6, g7, g8, hr.keep, g9, g10⟩
      · exact hq.elim
    rintro e a w' he
    cases e with
    | normal =>
      obtain ⟨pr, ⟨Ds, h1, h4, h5⟩, m, F', β', s, h2, h3⟩ := he
      show LeavesInM _ _ _ _ _ _ a.defers _ _
      rw [h1, List.append_nil]
      exact leave_marks (fun hr => fin a _ s h2 hr) Ds h4 h5 h3
    | ret =>
      obtain ⟨pr, ⟨Ds, h1, h4, h5⟩, m, F', β', s, h2, h3⟩ := he
      show LeavesInM _ _ _ _ _ _ a.defers _ _
      rw [h1, List.append_nil]
      exact leave_marks (fun hr => fin a _ s h2 hr) Ds h4 h5 h3
    | exit i => obtain ⟨pr, h1, m, F', β', s, h2, h3⟩ := he; exact h2.elim
    | goto l => obtain ⟨pr, h1, m, F', β', s, h2, h3⟩ := he; exact h2.elim
    | panic ch => exact he.elim
    | outgrown => exact he.elim

/-- The end of a round: it goes on ('b'), or the function returns. -/
def endR (b : Bool) (o1 : Own) : Post := fun e s =>
  match e with
  | .normal => (match b with
    | true => RetP s (.tup []) (.tup []) o1
    | false => False)
  | .ret => (match b with
    | true => False
    | false => RetP s (.tup []) (.tup []) o1)
  | _ => False

/-- **A round**: what is handed over ('oc'), what comes back ('o1'). -/
theorem round_of {body : Code} {args : List V} {oc o1 : Own} {b : Bool} (hN : (eqN args.length c.N) = true)
    (hT : TabOk P c.T) (hE : EqsOk P c.E) (hm : P.follows .mixedOrders = true) (hpl : plainC body = true) (hnc : notConds args = true) (hlow : lowO (oids oc) = true) (hpin : pinsO c.pin oc = true) (h : ∀ P', P' = P → V.wfl args → vc P' c body (endR b o1) ⟨argsE 0 args, oc, []⟩) :
    RoundA P c.G body args oc b o1 := by
  refine fun n l w vs F β h1 h2 hown hglob hF hdom => ?_
  have hwf : V.wfl args := (V.wfl_iff _).2 fun x hx => by
    obtain ⟨i, hi⟩ := mem_of_getElem? hx
    have hlt : i < vs.size := by rw [h1]; exact (List.getElem?_eq_some_iff.1 hi).1
    exact (h2 i _ x (Array.getElem?_eq_getElem hlt) hi).wf'
  have hN := eqN_true hN
  have hlo := fun id (ent : Ent) (he : olook oc id = some ent) => lowO_spec hlow (oids_look.2 ⟨ent, he⟩)
  refine wpIn_mono (vc_sound (r := some l) (n := n) (z := ⟨w, F, β, oc, ⟨w, F, β⟩, fun _ _ => False⟩) (d := []) (m := ⟨w, F, β⟩) (pr := fun _ _ => False) hm body (.inr hpl) (h P rfl hwf) (F := F) (β := β) (a := { tmps := vs, defers := [] }) ?_ ⟨[], rfl, List.nodup_nil, fun D h => by simp at h⟩) ?_
  · refine { n := h1.trans hN, env := fun t => ?_, own := hown, F0F := fun _ h => h, Fnew := fun _ _ h => h, Flt := hF, dom := hdom, fresh := fun id ent b h hb => .inr ⟨id, ent, h, hb⟩, keep := Keep.refl _ _, glob := hglob, tab := hT, eqs := hE, low := fun id ent h => (hlo id ent h).1,
             pins := fun id ent h hp => pinsO_spec hpin h hp, zlt := hF, nw := fun id ent b hlt h _ => by have := (hlo id ent h).1; omega, hold := fun id e0 e h0 h hp => ?_, mk0 := Nat.le_refl _, mk1 := fun b _ hn => ⟨rfl, hn⟩, prot := fun _ _ h => h.elim, mk2 := fun id b hb _ _ => ⟨rfl, .inr ⟨hb, by
               have hb' : β id = some b := hb
               cases hx : olook oc id with
               | some e => exact ⟨e, rfl⟩
               | none => rw [hdom id hx] at hb'; cases hb'⟩⟩ }
    · have := argsE_re (N := vs.size) h1 h2 (notConds_spec hnc) t
      simpa using this
    · have h0' : olook oc id = some e0 := h0
      rw [h] at h0'; cases h0'
      exact ⟨rfl, fun cs h => ⟨cs, h⟩, fun fx e sz α f l h => ⟨fx, α, f, l, h, rfl, fun b cur hb hc => ⟨cur, hc, rfl⟩⟩⟩
  · have fin : ∀ (e : Exit) (a : Act) (w' : World) (s : St) {m pr F' β'}, RetP s (.tup []) (.tup []) o1 → Rl P c ((From.mk w F β oc ⟨w, F, β⟩ fun _ _ => False).wt m pr) F' β' s a.tmps w' → ∃ v1 r1 o' F' β', Ending.returned (.bool b) = .returned v1 ∧ (r1 = .bool (.lit b) ∧ o' = o1) ∧ (∀ b, F b → F' b) ∧ (∀ b, b < w.heap.size → F' b → F b) ∧ (∀ b, F' b → b < w'.heap.size) ∧
        RA w' F' β' o' v1 r1 ∧ OwnOk w' F' β' o' ∧ (∀ id, olook o' id = none → β' id = none) ∧ Keep (fun b => ∃ id ent, olook oc id = some ent ∧ β id = some b) w w' ∧
        (∀ id ent b, olook o' id = some ent → β' id = some b → w.heap.size ≤ b ∨ ∃ id' ent', olook oc id' = some ent' ∧ β id' = some b) ∧
        (∀ id ent0 ent, olook oc id = some ent0 → olook o' id = some ent → pinned ent0 = true → Same w β oc w' β' o' id id) := by
      intro e a w' s m pr F' β' hq hr
      obtain ⟨F1, β1, g3, g4, g5, g6, g7, g8, g9, g10⟩ := hq.done hr (.d (.tuple #[]) _ (.tup #[] [] rfl (fun i c x h => by simp at h))) (fun id ent he => (hlo id ent he).2)
      exact ⟨.bool b, .bool (.lit b), o1, F1, β1, rfl, ⟨rfl, rfl⟩, g3, g4, g5, .d _ _ (.bool _ _ rfl), g7, g8, hr.keep, g9, g10⟩
    rintro e a w' he
    cases e with
    | normal =>
      obtain ⟨pr, _, m, F', β', s, h2, h3⟩ := he
      cases b with
      | true => exact fin .normal a w' s h2 h3
      | false => exact h2.elim
    | ret =>
      obtain ⟨pr, _, m, F', β', s, h2, h3⟩ := he
      cases b with
      | true => exact h2.elim
      | false => exact fin .ret a w' s h2 h3
    | exit i => obtain ⟨pr, h1, m, F', β', s, h2, h3⟩ := he; exact h2.elim
    | goto l => obtain ⟨pr, h1, m, F', β', s, h2, h3⟩ := he; exact h2.elim
    | panic ch => exact he.elim
    | outgrown => exact he.elim

end
end Go.Vg
