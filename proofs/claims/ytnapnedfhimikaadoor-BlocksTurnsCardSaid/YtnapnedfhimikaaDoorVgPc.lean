/- The conditions suffice: calls, own things handed over too. -/
import Derived.Test.YtnapnedfhimikaaDoorVgPb
set_option maxRecDepth 4000
set_option linter.all false
set_option linter.unusedVariables false
set_option linter.unusedSimpArgs false
namespace Go.Vg
open Go

theorem LePl.len {o : Own} : ∀ {xs ys : List V}, LePl o xs ys → xs.length = ys.length
  | _, _, .nil => rfl
  | _, _, .cons _ _ _ _ _ r => by simp [LePl.len r]

theorem RA.wf' {w : World} {F : Nat → Prop} {β : Bt} {o : Own} {v : Value} {x : V} (h : RA w F β o v x) : V.wf x := by
  induction h with
  | d v x h => exact h.wf
  | agg cs xs hl hone _ ih =>
    simp only [V.wf, V.wfl_iff]
    intro y hy
    obtain ⟨j, hj⟩ := mem_of_getElem? hy
    have hlt : j < cs.size := by rw [hl]; exact (List.getElem?_eq_some_iff.1 hj).1
    exact ih j _ y (Array.getElem?_eq_getElem hlt) hj
  | tup cs xs hl _ ih =>
    simp only [V.wf, V.wfl_iff]
    intro y hy
    obtain ⟨j, hj⟩ := mem_of_getElem? hy
    have hlt : j < cs.size := by rw [hl]; exact (List.getElem?_eq_some_iff.1 hj).1
    exact ih j _ y (Array.getElem?_eq_getElem hlt) hj
  | _ => simp [V.wf]

section
variable {P : Program} {c : Ctx} {z : From} {F : Nat → Prop} {β : Bt} {s : St} {tm : Array Value} {w : World} {a : Act} {op : Oper} {K : Out → Prop}

theorem twice_ups (outs : Outs) {o1 : Own} {σ : Sub} (hc : ∀ x c m, (x, c, m) ∈ outs → ∃ e, olook o1 c = some e) (s : St) :
    (∀ t, look (ups (twice (usOf outs o1 σ)) s).e t = V.sub (spurgeL (movedU (usOf outs o1 σ))) (look s.e t)) ∧
    (∀ id, olook (ups (twice (usOf outs o1 σ)) s).o id = olook (entsOn (usOf outs o1 σ) (subO (spurgeL (movedU (usOf outs o1 σ))) (oeraseL (idsU (usOf outs o1 σ)) s.o))) id) ∧
    ∀ id, memN (ups (twice (usOf outs o1 σ)) s).t id = (memN (idsU (usOf outs o1 σ)) id || memN s.t id) := by
  have hsid : spurgeL [] = sid := by simp [spurgeL, sid, memN]
  generalize usOf outs o1 σ = us
  match us with
  | [] =>
    refine ⟨fun t => ?_, fun id => ?_, fun id => ?_⟩
    · simp only [twice, ups, movedU, hsid, V.sub_id]
    · simp only [twice, ups, entsOn, movedU, idsU, oeraseL, hsid, olook_subO]
      cases olook s.o id with
      | none => rfl
      | some e => cases e <;> simp [Ent.sub, V.subl_id]
    · simp [twice, ups, idsU, memN]
  | [(x, m, e)] =>
    have hsp : ∀ l : List Nat, (∀ n, memN (movedU [(x, m, e), (x, m, e)]) n = memN (movedU [(x, m, e)]) n) := fun _ n => by
      cases m <;> simp [movedU, memN]
    have hs2 : spurgeL (movedU [(x, m, e), (x, m, e)]) = spurgeL (movedU [(x, m, e)]) := by
      simp only [spurgeL, hsp []]
    refine ⟨fun t => ?_, fun id => ?_, fun id => ?_⟩
    · simp only [twice, ups, upMany, look_subE, hs2]
    · simp only [twice, ups, upMany, entsOn, olook, idsU, oeraseL, hs2, olook_subO, olook_oerase]
      by_cases h : id = x
      · simp [h]
      · simp only [h, if_false]
        cases (eqN x id) <;> rfl
    · simp [twice, ups, upMany, idsU, memN_cat, memN]
  | u :: u' :: r =>
    refine ⟨fun t => ?_, fun id => ?_, fun id => ?_⟩
    · simp only [twice, ups, upMany, look_subE]
    · simp only [twice, ups, upMany]
    · simp only [twice, ups, upMany, memN_cat]

theorem call_ownC {C : (Ending → World → Prop) → Prop} (hC : ∀ {R R' : Ending → World → Prop}, C R → (∀ e w, R e w → R' e w) → C R') (hr : Rl P c z F β s tm w) {vs : List V} {us : List Value} (hlen : us.length = vs.length) (hus : ∀ (i : Nat) (u : Value) (x : V), us[i]? = some u → vs[i]? = some x → RA w F β s.o u x)
    {outs : Outs} {fz : List Nat} {args : List V} {oc o1 : Own} {r : V} (h : ∀ (F : Nat → Prop) (β : Bt), us.toArray.size = args.length → (∀ (i : Nat) (v : Value) (x : V), us.toArray[i]? = some v → args[i]? = some x → RA w F β oc v x) → OwnOk w F β oc → GlbOk c.G w F →
      (∀ b, F b → b < w.heap.size) → (∀ id, olook oc id = none → β id = none) →
      C (fun e w' => ∃ v r' o' F' β', e = .returned v ∧ (r' = r ∧ o' = o1) ∧ (∀ b, F b → F' b) ∧ (∀ b, b < w.heap.size → F' b → F b) ∧ (∀ b, F' b → b < w'.heap.size) ∧
        RA w' F' β' o' v r' ∧ OwnOk w' F' β' o' ∧ (∀ id, olook o' id = none → β' id = none) ∧ Keep (fun b => ∃ id ent, olook oc id = some ent ∧ β id = some b) w w' ∧
        (∀ id ent b, olook o' id = some ent → β' id = some b → w.heap.size ≤ b ∨ ∃ id' ent', olook oc id' = some ent' ∧ β id' = some b) ∧
        (∀ id ent0 ent, olook oc id = some ent0 → olook o' id = some ent → pinned ent0 = true → Same w β oc w' β' o' id id))) (hc : ownOk c outs fz (frz fz s) oc o1 = true)
    (hl : LePl oc (V.subl (srn (kap (insO outs))) (subFz fz s vs)) args) (hs : subN (oids (ocOf (insO outs) (frz fz s) (srn (kap (insO outs))))) (oids oc) = true) (ho : leO oc (ocOf (insO outs) (frz fz s) (srn (kap (insO outs)))) oc)
    (hk : V.wf r → K ⟨V.sub (srn (iot outs)) r, fz, twice (usOf outs o1 (srn (iot outs)))⟩) (next : Value → World → Prop)
    (hn : ∀ out F' β' val w', K out → Rl P c z F' β' (s.after out) tm w' → RA w' F' β' (s.after out).o val out.v → next val w') :
    C (fun e w'' => match e with
      | .returned v => next v w''
      | _ => False) := by
  simp only [ownOk, Bool.and_eq_true] at hc
  obtain ⟨⟨⟨⟨⟨⟨hnX, hnC⟩, hco1⟩, ho1c⟩, hlow⟩, hmv⟩, hnw⟩ := hc
  obtain ⟨F1, β1, h1, h2, h3⟩ := Rl.freezes fz hr (allLow_iff _ hlow)
  obtain ⟨k1, k2⟩ := h3 vs us hlen hus
  have haft : ∀ v us, s.after ⟨v, fz, us⟩ = ups us (frz fz s) := fun _ _ => rfl
  generalize frz fz s = s1 at *
  obtain ⟨hiX, hiC⟩ := insO_nodup hnX hnC
  have spec := movesOk_spec hmv
  have oc0 := fun cid e0 => ocOf_look (s := s1) (σ := srn (kap (insO outs))) (insO outs) hiC cid e0
  generalize hoc0 : ocOf (insO outs) s1 (srn (kap (insO outs))) = oz at *
  -- as the callee sees it
  let βc : Bt := fun cid => match iot (insO outs) cid with
    | some X => β1 X
    | none => none
  have hβc : ∀ x cid m, (x, cid, m) ∈ insO outs → βc cid = β1 x := fun x cid m hm => by simp only [βc, iot_of hiC hm]
  have sameIn : ∀ id e x, kap (insO outs) id = some x → olook s1.o id = some e → Same w β1 s1.o w βc oz id x := fun id e x hk he => by
    obtain ⟨m, hm⟩ := kap_mem hk
    have hz := (oc0 x (Ent.sub (srn (kap (insO outs))) e)).2 ⟨id, m, e, hm, he, rfl⟩
    refine ⟨hβc _ _ _ hm, fun cs h => ?_, fun fx t sz α f l h => ?_⟩
    · rw [he] at h; cases h; exact ⟨_, hz⟩
    · rw [he] at h; cases h; exact ⟨fx, α, f, l, hz, rfl, fun b cur hb hc => ⟨cur, hc, rfl⟩⟩
  have g1 : ∀ v x, RA w F1 β1 s1.o v x → RA w F1 βc oz v (V.sub (srn (kap (insO outs))) x) := fun v x hx => RA.ren (fun _ _ h => h) (fun id ent x hi he => sameIn id ent x hi he) hx
  have own0 : OwnOk w F1 βc oz := by
    refine ⟨fun cid e0 he => ?_, fun cid cid' b e0 e0' he he' hb hb' => ?_⟩
    · obtain ⟨x, m, e, q1, q2, rfl⟩ := (oc0 cid e0).1 he
      have hx := h1.own.ent x e q2
      cases e with
      | var cs =>
        obtain ⟨b, cv, t, u1, u2, u3, u4, u5, u6⟩ := hx
        refine ⟨b, cv, t, (hβc _ _ _ q1).trans u1, u2, u3, by simpa [V.subl_eq] using u4, u5, fun i v y hi hy => ?_⟩
        rw [V.subl_eq, List.getElem?_map, Option.map_eq_some_iff] at hy
        obtain ⟨y', hy', rfl⟩ := hy
        exact g1 _ _ (u6 i v y' hi hy')
      | arr fx t sz f l =>
        rcases hx with ⟨u1, u2⟩ | ⟨b, cur, u1, u2⟩
        · exact .inl ⟨(hβc _ _ _ q1).trans u1, u2⟩
        · exact .inr ⟨b, cur, (hβc _ _ _ q1).trans u1, u2⟩
    · obtain ⟨x, m, e, q1, q2, _⟩ := (oc0 cid e0).1 he
      obtain ⟨x', m', e', q3, q4, _⟩ := (oc0 cid' e0').1 he'
      rw [hβc _ _ _ q1] at hb
      rw [hβc _ _ _ q3] at hb'
      have := h1.own.inj x x' b e e' q2 q4 hb hb'
      subst this
      have r1 := kap_of hiX q1
      have r2 := kap_of hiX q3
      rw [r1] at r2; cases r2; rfl
  have hsub : ∀ id e, olook oz id = some e → ∃ e', olook oc id = some e' ∧ EntLe oc e e' := fun id e he => by
    have := subN_spec hs (oids_look.2 ⟨e, he⟩)
    obtain ⟨e', he'⟩ := oids_look.1 this
    obtain ⟨e1, e2, m1, m2, m3⟩ := leO_spec _ ho id e' he'
    rw [he] at m1; cases m1
    rw [he'] at m2; cases m2
    exact ⟨e', he', m3⟩
  have hnone : ∀ id, olook oz id = none → olook oc id = none := fun id hid => by
    cases hx : olook oc id with
    | none => rfl
    | some e => obtain ⟨e1, e2, m1, _⟩ := leO_spec _ ho id e hx; rw [hid] at m1; cases m1
  obtain ⟨own1, g2, sameZ⟩ := own_retell own0 hnone hsub
  have ocin : ∀ cid e0, olook oc cid = some e0 → ∃ x m e, (x, cid, m) ∈ insO outs ∧ olook s1.o x = some e ∧ KindEq e e0 := fun cid e0 he => by
    cases hz : olook oz cid with
    | none => rw [hnone cid hz] at he; cases he
    | some ez =>
      obtain ⟨e', m1, m2⟩ := hsub cid ez hz
      rw [he] at m1; cases m1
      obtain ⟨x, m, e, q1, q2, rfl⟩ := (oc0 cid ez).1 hz
      exact ⟨x, m, e, q1, q2, m2.kind.sub⟩
  have hcall := h F1 βc (by rw [List.size_toArray, hlen, ← hl.len, V.subl_eq, List.length_map, k1]) (fun i v x hi hx => by
    have hi' : us[i]? = some v := by simpa using hi
    obtain ⟨m1, m2⟩ := LePl.ra (cs := us.toArray) hl (w := w) (F := F1) (β := βc) (by rw [List.size_toArray, V.subl_eq, List.length_map, k1, hlen]) (fun j u y hj hy => by
      rw [V.subl_eq, List.getElem?_map, Option.map_eq_some_iff] at hy
      obtain ⟨y', hy', rfl⟩ := hy
      exact g2 _ _ (g1 _ _ (k2 j u y' (by simpa using hj) hy')))
    exact m2 i v x hi hx) own1 h1.glob h1.Flt (fun id hid => by
      simp only [βc]
      cases hx : iot (insO outs) id with
      | none => rfl
      | some X =>
        obtain ⟨m, hm⟩ := iot_mem hx
        obtain ⟨e, _, he, _⟩ := (spec X id m (insO_mem.1 hm).1).1 (insO_mem.1 hm).2
        obtain ⟨e', he', _⟩ := hsub id _ ((oc0 id _).2 ⟨X, m, e, hm, he, rfl⟩)
        rw [hid] at he'; cases he')
  refine hC hcall ?_
  rintro e w' ⟨v, r', o', F', β', rfl, ⟨rfl, rfl⟩, p1, p2, p3, p4, p5, p6, p7, p8, p9⟩
  have hcov : ∀ x c m, (x, c, m) ∈ outs → ∃ e, olook o' c = some e := fun x c m hm => oids_look.1 (subN_spec hco1 (outC_mem hm))
  obtain ⟨t1, t2, t3⟩ := twice_ups outs (σ := srn (iot outs)) hcov s1
  have hMv := movedU_usOf outs (σ := srn (iot outs)) hcov
  have hId := idsU_usOf outs (σ := srn (iot outs)) hcov
  obtain ⟨β'', hfin, hra⟩ := h1.called (w' := w') (F' := F') (oc := oc) (o' := o') (βc := βc) (β' := β') (κ := kap outs) (ι := iot outs) (M := movedU (usOf outs o' (srn (iot outs)))) (s' := ups (twice (usOf outs o' (srn (iot outs)))) s1)
    (fun cid e0 he => by
      obtain ⟨x, m, e, q1, q2, q3⟩ := ocin cid e0 he
      exact ⟨x, e, kap_of hnX (insO_mem.1 q1).1, hβc _ _ _ q1, q2, q3⟩)
    p1 p2 p3 p5 p6 p7 p8 p9
    (fun id cid => ⟨fun h => by obtain ⟨m, hm⟩ := kap_mem h; exact iot_of hnC hm, fun h => by obtain ⟨m, hm⟩ := iot_mem h; exact kap_of hnX hm⟩)
    (fun cid => ⟨fun ⟨id, h⟩ => by obtain ⟨m, hm⟩ := kap_mem h; exact hcov _ _ _ hm, fun h => by
      obtain ⟨x, m, hm⟩ := outC_of (subN_spec ho1c (oids_look.2 h))
      exact ⟨x, kap_of hnX hm⟩⟩)
    (fun id cid hk hm => by
      obtain ⟨m, hmem⟩ := kap_mem hk
      cases m with
      | true => rw [(hMv id).2 ⟨cid, hmem⟩] at hm; cases hm
      | false =>
        have hlt : cid < 20000 := by
          rcases Nat.lt_or_ge cid 20000 with h | h
          · exact h
          · have := (spec id cid false hmem).2.1 (by omega); cases this
        obtain ⟨e, e', he, he', hp⟩ := (spec id cid false hmem).1 hlt
        exact ⟨e', he', hp rfl⟩)
    (fun id hm => by obtain ⟨cid, hc⟩ := (hMv id).1 hm; exact ⟨cid, kap_of hnX hc⟩)
    (fun id ent0 hm h0 => by
      obtain ⟨cid, hc⟩ := (hMv id).1 hm
      rcases (spec id cid true hc).2.2 rfl with h | h
      · have := h1.low id ent0 h0; omega
      · cases hp : pinned ent0 with
        | false => rfl
        | true => rw [h1.pins id ent0 h0 hp] at h; cases h)
    (by
      simp only [Bool.or_eq_true] at hnw
      rcases hnw with h | h
      · left
        intro id cid hk
        obtain ⟨m, hm⟩ := kap_mem hk
        exact allHigh_spec h (outX_mem hm)
      · right
        intro cid e0 X he hk
        obtain ⟨x, m, e, q1, q2, _⟩ := ocin cid e0 he
        obtain ⟨m', hm'⟩ := kap_mem hk
        have : X = x := by
          have r1 := iot_of hnC hm'
          have r2 := iot_of hnC (insO_mem.1 q1).1
          rw [r1] at r2; cases r2; rfl
        subst this
        exact allLow_iff _ h X ((mem_iff _ _).1 (outX_mem q1)))
    t1
    (fun id => by
      rw [t2, entsOn_usOf outs hnX hcov]
      cases hk : kap outs id with
      | some cid => rfl
      | none =>
        simp only
        rw [olook_subO, olook_oeraseL, hId]
        have : memN (outX outs) id ≠ true := fun h => by
          have : ∀ l : Outs, memN (outX l) id = true → kap l id ≠ none := fun l => by
            induction l with
            | nil => intro h; cases h
            | cons q l ih =>
              obtain ⟨x, c, m⟩ := q
              intro h
              simp only [outX, memN, Bool.or_eq_true] at h
              simp only [kap]
              cases hb : (eqN x id) with
              | true => simp
              | false => rw [hb] at h; exact ih (h.resolve_left (by simp))
          exact this outs h hk
        rw [if_neg this])
    (fun id hm => by
      rw [t3, hId, Bool.or_eq_false_iff] at hm
      refine ⟨?_, hm.2⟩
      cases hk : kap outs id with
      | none => rfl
      | some cid => obtain ⟨m, hmem⟩ := kap_mem hk; rw [outX_mem hmem] at hm; cases hm.1)
  exact hn _ F' β'' v w' (hk p4.wf') (by rw [haft]; exact hfin) (by rw [haft]; exact hra _ _ p4)

theorem call_own (ha : a.tmps = tm) (hr : Rl P c z F β s tm w) {f : FuncId} {vs : List V} {us : List Value} (hlen : us.length = vs.length) (hus : ∀ (i : Nat) (u : Value) (x : V), us[i]? = some u → vs[i]? = some x → RA w F β s.o u x)
    {outs : Outs} {fz : List Nat} {args : List V} {oc o1 : Own} {r : V} (h : ACalls P c.G f args oc (fun x o' => x = r ∧ o' = o1)) (hc : ownOk c outs fz (frz fz s) oc o1 = true)
    (hl : LePl oc (V.subl (srn (kap (insO outs))) (subFz fz s vs)) args) (hs : subN (oids (ocOf (insO outs) (frz fz s) (srn (kap (insO outs))))) (oids oc) = true) (ho : leO oc (ocOf (insO outs) (frz fz s) (srn (kap (insO outs)))) oc)
    (hk : V.wf r → K ⟨V.sub (srn (iot outs)) r, fz, twice (usOf outs o1 (srn (iot outs)))⟩) (next : Act → World → Prop)
    (hn : ∀ out F' β' val w', K out → Rl P c z F' β' (s.after out) tm w' → RA w' F' β' (s.after out).o val out.v → next (a.put op.dst val) w') :
    Calls P f us.toArray w (fun e w'' => match e with
      | .returned v => next (a.put op.dst v) w''
      | _ => False) :=
  call_ownC (C := Calls P f us.toArray w) (fun h hm => h.mono hm) hr hlen hus (h.2 w · · us.toArray) hc hl hs ho hk (fun v w'' => next (a.put op.dst v) w'') hn

theorem step_call (ha : a.tmps = tm) (hr : Rl P c z F β s tm w) {im : List (Nat × Bool)} (him : ∀ t b, (t, b) ∈ im → tm.getD t undef = .bool b) {x : Operand} {args0 : List Operand} {ats : Array TypeId} {f : FuncId} {first cap : List V}
    (hop : op.op = .call { callee := .value x, args := ⟨args0⟩, argTypes := ats }) (hx : res s.e im (evalO c s.e x) = .fn f first cap)
    (hk : CallP P c f (first ++ args0.map (fun x => res s.e im (evalO c s.e x)) ++ cap) s (subFz (oslIdsl (first ++ args0.map (fun x => res s.e im (evalO c s.e x)) ++ cap)) s (first ++ args0.map (fun x => res s.e im (evalO c s.e x)) ++ cap))
      (V.subl (sview s.o) (first ++ args0.map (fun x => res s.e im (evalO c s.e x)) ++ cap)) (oslIdsl (first ++ args0.map (fun x => res s.e im (evalO c s.e x)) ++ cap)) K) : StepTo P c z s tm w a op K := by
  obtain ⟨fs, cs, e1, e2, e3⟩ := args_ra ha hr him (args := args0) hx
  generalize (first ++ args0.map (fun x => res s.e im (evalO c s.e x)) ++ cap) = vs at *
  generalize hids : oslIdsl vs = ids at *
  intro next Q hn
  cases hk with
  | data r h hl hd hrd hk =>
    obtain ⟨⟨fn, hf, hname, hb⟩, h⟩ := h
    unfold Oper.wp
    rw [run_call hop e1 hf hname hb, Oper.upon_enter, show Array.map a.eval ⟨args0⟩ = (args0.map a.eval).toArray by simp]
    obtain ⟨F1, β1, h1, h2, h3⟩ := Rl.freezes ids hr (allLow_iff _ hl)
    obtain ⟨k1, k2⟩ := h3 vs (fs ++ (args0.map a.eval).toArray ++ cs).toList (by simpa using e2) (fun i u x hi hx => e3 i u x (by rw [← Array.getElem?_toList]; exact hi) hx)
    refine (h w F1 (fun _ => none) (fs ++ (args0.map a.eval).toArray ++ cs) (by rw [k1]; exact e2) (fun i v x hi hx => ?_) ⟨fun _ _ h => by simp [olook] at h, fun _ _ _ _ _ h => by simp [olook] at h⟩ h1.glob h1.Flt (fun _ _ => rfl)).mono ?_
    · exact .d _ _ ((k2 i v x (by rw [Array.getElem?_toList]; exact hi) hx).data ((isDatal_iff _).1 hd x (List.mem_of_getElem? hx)))
    · rintro e w' ⟨v, r', o', F', β', rfl, rfl, g1, g2, g3, g4, g5, g6, g7, _, _⟩
      have hk7 : ∀ b, b < w.heap.size → w'.heap[b]? = w.heap[b]? := fun b hb => g7.block b hb (by rintro ⟨id, ent, h, _⟩; simp [olook] at h)
      obtain ⟨m1, m2, m3⟩ := h1.world hk7 g7.os g7.tape g7.output g7.size g1 g2 g3
      refine hn _ F' β1 v w' (hk (g4.data hrd).wf) m1 (.d _ _ (g4.data hrd))
  | lend r h hrd hk =>
    obtain ⟨⟨fn, hf, hname, hb⟩, h⟩ := h
    unfold Oper.wp
    rw [run_call hop e1 hf hname hb, Oper.upon_enter, show Array.map a.eval ⟨args0⟩ = (args0.map a.eval).toArray by simp]
    refine (h w (fun b => F b ∧ ∀ id ent, olook s.o id = some ent → β id ≠ some b) (fun _ => none) (fs ++ (args0.map a.eval).toArray ++ cs) (by rw [V.subl_eq]; simpa using e2) (fun i v x hi hx => ?_) ⟨fun _ _ h => by simp [olook] at h, fun _ _ _ _ _ h => by simp [olook] at h⟩
      ⟨fun gg cs hg => hd_of (fun _ _ _ => rfl) (fun _ _ h => h.1) (Nat.le_refl _) _ _ (hr.glob.ok gg cs hg)⟩ (fun b h => hr.Flt b h.1) (fun _ _ => rfl)).mono ?_
    · rw [V.subl_eq, List.getElem?_map, Option.map_eq_some_iff] at hx
      obtain ⟨y, hy, rfl⟩ := hx
      exact lent_ra hr (e3 i v y hi hy)
    · rintro e w' ⟨v, r', o', F', β', rfl, rfl, g1, g2, g3, g4, g5, g6, g7, _, _⟩
      have hk7 : ∀ b, b < w.heap.size → w'.heap[b]? = w.heap[b]? := fun b hb => g7.block b hb (by rintro ⟨id, ent, h, _⟩; simp [olook] at h)
      obtain ⟨m1, m2, m3⟩ := hr.world (F' := fun b => F b ∨ F' b) hk7 g7.os g7.tape g7.output g7.size (fun b h => .inl h) (fun b hb h => h.elim id fun h => (g2 b hb h).1) (fun b h => h.elim (fun h => Nat.lt_of_lt_of_le (hr.Flt b h) g7.size) (g3 b))
      have := fun w F => flat_rd (w' := w) (F' := F) g4 hrd
      exact hn _ (fun b => F b ∨ F' b) β v w' (hk (this w F).wf) m1 (.d _ _ (this _ _))
  | own outs fz args oc o1 r h hc hl hs ho hk =>
    have hh := h.1
    obtain ⟨fn, hf, hname, hb⟩ := hh
    unfold Oper.wp
    rw [run_call hop e1 hf hname hb, Oper.upon_enter, show Array.map a.eval ⟨args0⟩ = (args0.map a.eval).toArray by simp]
    have := call_own (op := op) (K := K) ha hr (us := (fs ++ (args0.map a.eval).toArray ++ cs).toList) (by simpa using e2) (fun i u x hi hx => e3 i u x (by rw [← Array.getElem?_toList]; exact hi) hx) h hc hl hs ho hk next hn
    rw [Array.toArray_toList] at this
    exact this.mono fun e w' he => by cases e <;> first | exact he | exact he.elim

end
end Go.Vg
