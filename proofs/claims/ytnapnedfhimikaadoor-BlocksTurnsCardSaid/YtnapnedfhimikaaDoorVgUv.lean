/- The conditions on a range over a function suffice. -/
import Derived.Test.YtnapnedfhimikaaDoorVgUt
set_option maxRecDepth 4000
set_option linter.all false
set_option linter.unusedVariables false
set_option linter.unusedSimpArgs false
namespace Go.Vg
open Go Go.RowKit

section
variable {P : Program} {c : Ctx} {z : From} {F : Nat → Prop} {β : Bt} {s : St} {tm : Array Value} {w : World}

theorem DOk.pr {z : From} {d : List Deferred} {pr pr' : Nat → Obj → Prop} {a : Act} (h : DOk z d pr a) (hp : ∀ k o, pr k o → pr' k o) : DOk z d pr' a :=
  let ⟨Ds, h1, h2, h3⟩ := h
  ⟨Ds, h1, h2, fun D hD => ⟨hp _ _ (h3 D hD).1, (h3 D hD).2⟩⟩

theorem zip_foldl (ps : Array Tmp) (args : Array Value) (tm : Array Value) : (ps.zip args).foldl (fun t (p, v) => t.setIfInBounds p v) tm = (ps.toList.zip args.toList).foldl (fun t q => t.setIfInBounds q.1 q.2) tm := by
  rw [← Array.foldl_toList, Array.toList_zip]

theorem ra_lit {v : Value} {b : Bool} {o : Own} (h : RA w F β o v (.bool (.lit b))) : v = .bool b := RA.of_bool (e := .lit b) h

theorem rangeP_sound {n : Nat} {g : Operand} {ps : Array Tmp} {assign body : Code} {Q : Post} {a : Act} {d : List Deferred} {m : Mark} {pr : Nat → Obj → Prop} (h : RangeP P c g ps assign body Q s) (hr : Rl P c (z.wt m pr) F β s a.tmps w) (hd : DOk z d pr a) :
    (Code.rangeFunc g ps assign body).wpIn (FR none) n P (QS P c z d Q) a w := by
  obtain ⟨S, φ, gf, caps, ES, x0, hg, hdat, hseq, h0, hs, hround, hq⟩ := h
  -- the iterator's value
  have hgv := res_ra rfl hr.toRel (by simp) (im := []) g
  rw [hg] at hgv
  obtain ⟨fs, cs, e1, e2, e3, _, e4⟩ := RA.of_fn hgv
  have e2 : fs = #[] := Array.eq_empty_of_size_eq_zero e2
  subst e2
  have hcd : ∀ (i : Nat) (v : Value) (x : V), cs[i]? = some v → caps[i]? = some x → RD w F v x := fun i v x hi hx => (e4 i v x hi hx).data ((isDatal_iff _).1 hdat x (List.mem_of_getElem? hx))
  obtain ⟨F1, β1, hr1⟩ := leSt_sound0 hs hr.mark0 (fun _ => rfl)
  have hzD : z.w.heap.size ≤ w.heap.size := hr.keep.size
  refine wpIn_rangeFunc ?_
  intro fn hfn
  obtain ⟨rec, hrec⟩ : ∃ rec : LoopState → Option Code → Loop, rec = fun st pe => { state := st, pending := pe, fn, tmps := a.tmps, params := ps, assign, body, defers := w.heap.size } := ⟨_, rfl⟩
  have hr2 := hr1.lay (.deferred (some [])) (.loop (rec .ready none))
  obtain ⟨W1, hW1⟩ : ∃ W1, (w.alloc (.deferred (some []))).alloc (.loop (rec .ready none)) = W1 := ⟨_, rfl⟩
  have hsz1 : W1.heap.size = w.heap.size + 2 := by rw [← hW1]; simp
  obtain ⟨F2, hF2⟩ : ∃ F2 : Nat → Prop, (fun b => F1 b ∨ b = w.heap.size ∨ b = w.heap.size + 1) = F2 := ⟨_, rfl⟩
  have hk1 : ∀ b, b < w.heap.size → W1.heap[b]? = w.heap[b]? := fun b hb => by
    rw [← hW1, Below.heap_alloc _ _ _ (by simp; omega), Below.heap_alloc _ _ _ hb]
  have hcd2 : ∀ (i : Nat) (v : Value) (x : V), cs[i]? = some v → caps[i]? = some x → RD W1 F2 v x := fun i v x hi hx =>
    (hcd i v x hi hx).carry fun b hb hn => ⟨hk1 b hb, by
      rw [← hF2]
      rintro (h | h)
      · exact (hr1.mk1 b hb hn).2 h
      · omega, by omega⟩
  rw [hW1, hF2] at hr2
  obtain ⟨l, hl⟩ : ∃ l, w.heap.size + 1 = l := ⟨_, rfl⟩
  obtain ⟨D, hDe⟩ : ∃ D, w.heap.size = D := ⟨_, rfl⟩
  have hDl : D ≠ l := by omega
  -- the protected things, by the record's state
  obtain ⟨pk, hpk⟩ : ∃ pk : Loop → Nat → Obj → Prop, pk = fun rc k o => (pr k o ∨ (k = D ∧ o = .deferred (some []))) ∨ (k = l ∧ o = .loop rc) := ⟨_, rfl⟩
  have pkl : ∀ rc, pk rc l (.loop rc) := fun rc => by rw [hpk]; exact .inr ⟨rfl, rfl⟩
  have prl : ∀ k o, pr k o → k < w.heap.size := fun k o h => blk_lt (hr.prot k o h).2.1
  obtain ⟨m2, hm2⟩ : ∃ m2 : Mark, (⟨W1, F2, fun _ => none⟩ : Mark) = m2 := ⟨_, rfl⟩
  have mF : m2.F = F2 := by rw [← hm2]
  have mW : m2.w = W1 := by rw [← hm2]
  have mβ : ∀ id, m2.β id = none := fun id => by rw [← hm2]
  have hr3 : Rl P c (z.wt m2 (pk (rec .ready none))) F2 β1 (S x0) a.tmps W1 := by
    rw [← hm2]
    exact { hr2 with own := hr2.own, fresh := hr2.fresh, hold := hr2.hold, nw := hr2.nw, prot := fun k o h => hr2.prot k o (by
      have h : pk (rec .ready none) k o := h
      rw [hpk] at h
      rcases h with (h | ⟨h1, h2⟩) | ⟨h1, h2⟩
      · exact .inl h
      · exact .inr (.inl ⟨h1.trans hDe.symm, h2⟩)
      · exact .inr (.inr ⟨h1.trans hl.symm, h2⟩)) }
  -- one record for another
  have flipTo : ∀ {rc rc' : Loop} {F β s tm W}, Rl P c (z.wt m2 (pk rc)) F β s tm W → Rl P c (z.wt m2 (pk rc')) F β s tm (W.putObj l (.loop rc')) := fun {rc rc' F β s tm W} h => by
    obtain ⟨q1, q2, q3⟩ := h.prot l _ (pkl rc)
    refine h.flip q1 q3 (by show z.w.heap.size ≤ l; omega) (.inl (by show m2.F l; rw [mF, ← hF2]; exact .inr (.inr hl.symm))) (fun id => by show m2.β id ≠ some l; rw [mβ]; simp) _ _ fun k o hp => ?_
    rw [hpk] at hp
    rcases hp with hp | ⟨rfl, rfl⟩
    · refine .inl ⟨fun e => ?_, by show pk rc k o; rw [hpk]; exact .inl hp⟩
      rcases hp with hp | ⟨hp, _⟩
      · have := prl k o hp; omega
      · omega
    · exact .inr ⟨rfl, rfl⟩
  have recAt : ∀ {rc : Loop} {F β s tm W}, Rl P c (z.wt m2 (pk rc)) F β s tm W → W.heap[l]? = some (.loop rc) := fun {rc F β s tm W} h => (h.prot l _ (pkl rc)).2.1
  -- behind the loop
  have behind : ∀ {rc : Loop} {F β s W}, Rl P c (z.wt m2 (pk rc)) F β s a.tmps W → ∀ e, Q e s → (match e with
      | .panic _ => False
      | .outgrown => False
      | _ => True) → QS P c z d Q e { a with defers := dmk D :: a.defers } W := fun {rc F β s W} hrW e hqe he => by
    have : ∃ pr, DOk z d pr { a with defers := dmk D :: a.defers } ∧ ∃ m F β s, Q e s ∧ Rl P c (z.wt m pr) F β s a.tmps W := by
      refine ⟨pk rc, ?_, m2, F, β, s, hqe, hrW⟩
      obtain ⟨Ds, g1, g2, g3⟩ := hd
      refine ⟨D :: Ds, by simp [g1], List.nodup_cons.2 ⟨fun hD => ?_, g2⟩, fun D' hD' => ?_⟩
      · have := prl _ _ (g3 D hD).1; omega
      · rcases List.mem_cons.1 hD' with rfl | hD'
        · exact ⟨by rw [hpk]; exact .inl (.inr ⟨rfl, rfl⟩), by omega⟩
        · exact ⟨by rw [hpk]; exact .inl (.inl (g3 D' hD').1), (g3 D' hD').2⟩
    cases e with
    | panic _ => exact he.elim
    | outgrown => exact he.elim
    | _ => exact this
  refine ⟨l, [dmk D], W1, { target := .fn (.func gf) cs, args := #[.func (.yield l) #[] #[]] }, W1, gf, #[.func (.yield l) #[] #[]] ++ cs, W1, ?_, ?_, fun _ _ => trivial, ?_, fun hd => by simp [FR, Fence.wide] at hd, ?_⟩
  · rw [← hl, ← hDe, ← hW1, hrec]; exact run_enterLoop_outer _ _ _ _ _
  · simp only [resolve, e1]
    simp [go_sem]
  · simp [invoke, go_sem, hseq.1]
  refine callsIn_fr ((hseq.2 W1 F2 cs e3 hcd2 l
    (fun k W => ∃ x F β, φ k x ∧ Rl P c (z.wt m2 (pk (rec .ready none))) F β (S x) a.tmps W)
    (fun W => ∃ s' F β, Q .ret s' ∧ Rl P c (z.wt m2 (pk (rec .done (some .ret)))) F β s' a.tmps W)
    ?_ ?_ ?_ ?_ ⟨x0, F2, β1, h0, hr3⟩).mono ?_)
  · rintro k W W' ⟨x, F, β, hx, hW⟩ hk
    exact ⟨x, F, β, hx, (hW.world (F' := F) (fun b hb => hk.block b hb (fun h => h)) hk.os hk.tape hk.output hk.size (fun _ h => h) (fun _ _ h => h) (fun b h => Nat.lt_of_lt_of_le (hW.Flt b h) hk.size)).1⟩
  · rintro W W' ⟨x, F, β, hx, hW⟩ hk
    exact ⟨x, F, β, hx, (hW.world (F' := F) (fun b hb => hk.block b hb (fun h => h)) hk.os hk.tape hk.output hk.size (fun _ h => h) (fun _ _ h => h) (fun b h => Nat.lt_of_lt_of_le (hW.Flt b h) hk.size)).1⟩
  · rintro k W ⟨x, F, β, hx, hW⟩
    have m0 := hW.mk0
    have m1 := hW.mk1
    simp only [From.wt, mW, mF] at m0 m1
    exact ⟨m0, fun b hb hn => (m1 b hb hn).1⟩
  · -- a round
    rintro k es args W hes ⟨x, F, β, hx, hW⟩ hsz hargs nn
    obtain ⟨hlen, hesd, hrd⟩ := hround k es x hes hx
    have hrecW := recAt hW
    have hy := run_yield (P := P) (args := args) hrecW (by rw [hrec]; exact hsz.trans hlen)
    rw [hrec] at hy
    have m1 := hW.mk1
    have hFn := hW.keep
    have hargs' : ∀ (i : Nat) (v : Value) (x : V), args.toList[i]? = some v → es[i]? = some x → RD W F v x := fun i v x hi hx => hargs F (fun b hb hF => Classical.not_not.1 fun hn => by
      simp only [From.wt, mW, mF] at m1
      exact (m1 b hb hn).2 hF) i v x (by rw [← Array.getElem?_toList]; exact hi) hx
    refine ⟨fn, _, assign, body, hy, roundIn_of_wpIn (F := Fence.wide) trivial ?_⟩
    obtain ⟨id, ops, s1, outs, vargs, oc, o1, b, hasg, hnd, hpure, hl', hc, hs', ho, hA, hk⟩ := hrd
    have hp1 := putPs_rl ps.toList es args.toList hW (by simp; omega) hargs'
    simp only
    rw [zip_foldl, hasg]
    refine wpIn_region_list (F := FR (some l)) (wpList_in (r := some l) (fun _ _ h => h) ops _ W (.inr hnd) (runPure_run ops (a := { tmps := _, defers := [] }) hp1 hpure fun a1 hd1 ha1 => ?_))
    have hs1o : s1.o = (S x).o := (runPure_o _ _ _ hpure).trans (putPs_o _ _ _)
    refine ⟨W.putObj l (.loop { rec .ready none with state := .busy }), run_beginRound hrecW (by rw [hrec]), ?_⟩
    have hB := flipTo (rc' := { rec .ready none with state := .busy }) hW
    have hB1 := flipTo (rc' := { rec .ready none with state := .busy }) ha1
    have he1 : a1 = { tmps := a1.tmps, defers := [] } := by
      obtain ⟨t1, d1⟩ := a1
      simp only at hd1
      rw [hd1]
    have hus : ∀ (i : Nat) (u : Value) (x' : V), a1.tmps.toList[i]? = some u → (slotsV 0 c.N s1.e)[i]? = some x' → RA (W.putObj l (.loop { rec .ready none with state := .busy })) F β (S x).o u x' := fun i u x' hi hx' => by
      rw [← hs1o]; exact slots_ra hB1 i u x' hi hx'
    have hcall := call_ownC (C := RC P nn l body a1.tmps (W.putObj l (.loop { rec .ready none with state := .busy }))) (fun h hm => h.mono hm) hB (vs := slotsV 0 c.N s1.e) (us := a1.tmps.toList) (by rw [slotsV_len, Array.length_toList]; exact ha1.n) hus
      (outs := outs) (fz := []) (args := vargs) (oc := oc) (o1 := o1) (r := .bool (.lit b)) (K := fun out => out = ⟨.bool (.lit b), [], twice (usOf outs o1 (srn (iot outs)))⟩)
      (fun F' β' g1 g2 g3 g4 g5 g6 => hA nn l _ a1.tmps F' β' (by simpa using g1) (by simpa using g2) g3 g4 g5 g6) hc hl' hs' ho (fun _ => rfl)
      (fun v w3 => v = .bool b ∧ ∃ F' β', Rl P c (z.wt m2 (pk { rec .ready none with state := .busy })) F' β' ((S x).after ⟨.bool (.lit b), [], twice (usOf outs o1 (srn (iot outs)))⟩) a.tmps w3)
      (fun out F' β' val w' hout hR hv => by subst hout; exact ⟨ra_lit hv, F', β', hR⟩)
    rw [he1]
    refine wpIn_mono hcall fun e a3 W3 he3 => ?_
    cases e with
    | normal =>
      obtain ⟨hb, F', β', hR⟩ := he3
      have hb : b = true := by simpa using hb.symm
      subst hb
      have hrec3 := recAt hR
      refine ⟨_, _, run_endRound none hrec3, .inl ⟨rfl, ?_⟩⟩
      obtain ⟨x', hx', hle⟩ := hk
      have hR2 := flipTo (rc' := rec .ready none) hR
      obtain ⟨F4, β4, hR4⟩ := leSt_sound0 hle hR2 mβ
      refine ⟨x', F4, β4, hx', ?_⟩
      have : (Obj.loop { { rec .ready none with state := .busy } with state := if (none : Option Code).isNone = true then LoopState.ready else LoopState.done, pending := none }) = .loop (rec .ready none) := by rw [hrec]; rfl
      rw [this]
      exact hR4
    | ret =>
      obtain ⟨hb, F', β', hR⟩ := he3
      have hb : b = false := by simpa using hb.symm
      subst hb
      have hrec3 := recAt hR
      refine ⟨_, _, run_endRound (some .ret) hrec3, .inr ⟨rfl, ?_⟩⟩
      have hR2 := flipTo (rc' := rec .done (some .ret)) hR
      obtain ⟨s2, hle, hk⟩ := hk
      obtain ⟨F4, β4, hR4⟩ := leSt_sound0 hle hR2 mβ
      refine ⟨s2, F4, β4, hk, ?_⟩
      have : (Obj.loop { { rec .ready none with state := .busy } with state := if (some Code.ret : Option Code).isNone = true then LoopState.ready else LoopState.done, pending := some .ret }) = .loop (rec .done (some .ret)) := by rw [hrec]; rfl
      rw [this]
      exact hR4
    | exit _ => exact he3.elim
    | goto _ => exact he3.elim
    | panic _ => exact he3.elim
    | outgrown => exact he3.elim
  · -- the iterator has returned
    rintro e W2 ⟨⟨v, rfl⟩, h⟩
    rcases h with ⟨x, F, β, hx, hW⟩ | ⟨s', F, β, hx, hW⟩
    · have hrecW := recAt hW
      refine ⟨none, _, by have := run_endLoop (P := P) hrecW (by rw [hrec]; simp); rw [hrec] at this; exact this, ?_⟩
      have := flipTo (rc' := { rec .ready none with state := .exhausted }) hW
      rw [hrec] at this
      exact behind this .normal (hq x hx) trivial
    · have hrecW := recAt hW
      refine ⟨some .ret, _, by have := run_endLoop (P := P) hrecW (by rw [hrec]; simp); rw [hrec] at this; exact this, ?_⟩
      have := flipTo (rc' := { rec .done (some .ret) with state := .exhausted }) hW
      rw [hrec] at this
      exact wpIn_ret (behind this .ret hx trivial)
end
end Go.Vg
