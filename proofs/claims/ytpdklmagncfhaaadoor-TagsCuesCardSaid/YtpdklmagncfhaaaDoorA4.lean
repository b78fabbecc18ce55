/- The own layer, part A4: soundness of the conditions of code. -/
import Derived.Test.YtpdklmagncfhaaaDoorA3
import Derived.Conc.Own4
import Derived.Laws.CopyRow
import Derived.ChangeMaps5
import Derived.MapKept
set_option maxRecDepth 4000
set_option linter.all false
set_option linter.unusedVariables false
set_option linter.unusedSimpArgs false
/- The conditions suffice: calls. -/
namespace Go.Vg
open Go

section
variable {P : Program} {c : Ctx} {z : From} {F : Nat → Prop} {β : Bt} {s : St} {tm : Array Value} {w : World} {a : Act} {op : Oper} {K : Out → Prop}

theorem run_call {o : Oper} {x : Operand} {args : Array Operand} {ats : Array TypeId} {f : FuncId} {fs cs : Array Value} (hop : o.op = .call { callee := .value x, args, argTypes := ats }) (hx : a.eval x = .func (.func f) fs cs)
    {fn : Func} (hf : P.funcs[f]? = some fn) (hname : (fn.name == "runtime.NumGoroutine") = false) (hb : fn.body.isNone = false) : (execOp a.eval o).run P w = .ok (.enter f (fs ++ args.map a.eval ++ cs)) w := by
  have h1 : ¬ fn.name = "runtime.NumGoroutine" := by simpa using hname
  have h2 : ¬ fn.body = none := by cases hx : fn.body <;> simp_all
  unfold execOp
  simp [hop, resolve, Deferred.ofValue, invoke, callFunc, hf, h1, h2, hx]

/-- The arguments of a call, one by one. -/
theorem args_ra (ha : a.tmps = tm) (hr : Rl P c z F β s tm w) {im : List (Nat × Bool)} (him : ∀ t b, (t, b) ∈ im → tm.getD t undef = .bool b) {x : Operand} {args : List Operand} {f : FuncId} {first cap : List V} (hx : res s.e im (evalO c s.e x) = .fn f first cap) :
    ∃ fs cs, a.eval x = .func (.func f) fs cs ∧ (fs ++ (args.map a.eval).toArray ++ cs).size = (first ++ args.map (fun x => res s.e im (evalO c s.e x)) ++ cap).length ∧
      ∀ (i : Nat) (v : Value) (y : V), (fs ++ (args.map a.eval).toArray ++ cs)[i]? = some v → (first ++ args.map (fun x => res s.e im (evalO c s.e x)) ++ cap)[i]? = some y → RA w F β s.o v y := by
  have h := res_ra ha hr.toRel him x
  rw [hx] at h
  obtain ⟨fs, cs, e, h1, h2, h3, h4⟩ := RA.of_fn h
  refine ⟨fs, cs, e, by simp [h1, h2], fun i v y hi hy => ?_⟩
  simp only [Array.getElem?_append, List.getElem?_append, Array.size_append, List.size_toArray, List.length_append, List.length_map, h1] at hi hy
  split at hi
  · rename_i q1
    rw [if_pos q1] at hy
    split at hi
    · rename_i q2
      rw [if_pos q2] at hy
      exact h3 i v y hi hy
    · rename_i q2
      rw [if_neg q2, List.getElem?_map, Option.map_eq_some_iff] at hy
      rw [List.getElem?_toArray, List.getElem?_map, Option.map_eq_some_iff] at hi
      obtain ⟨o1, m1, rfl⟩ := hi
      obtain ⟨o2, m2, rfl⟩ := hy
      rw [m1] at m2; cases m2
      exact res_ra ha hr.toRel him o1
  · rename_i q1
    rw [if_neg q1] at hy
    exact h4 _ v y hi hy

theorem flat_mem : ∀ (l : List V), flatl l = true → ∀ x, x ∈ l → flat x = true
  | [], _, x, hx => by cases hx
  | a :: r, h, x, hx => by
    simp only [flatl, Bool.and_eq_true] at h
    rcases List.mem_cons.1 hx with e | hx
    · rw [e]; exact h.1
    · exact flat_mem r h.2 x hx

theorem flat_rd {w w' : World} {F F' : Nat → Prop} {β : Bt} {o : Own} {v : Value} {x : V} (h : RA w F β o v x) (hx : flat x = true) : RD w' F' v x := by
  have hd : ∀ v x, RD w F v x → flat x = true → RD w' F' v x := by
    intro v x h
    induction h with
    | int k e n h hk => intro _; exact .int k e n h hk
    | bool e b h => intro _; exact .bool e b h
    | str e s h hl => intro _; exact .str e s h hl
    | nilsl x sz hx => intro hx'; cases x <;> simp [V.elems] at hx <;> simp [flat] at hx'
    | slice x sz es hx => intro hx'; cases x <;> simp [V.elems] at hx <;> simp [flat] at hx'
    | agg cs xs hl hone _ ih => intro hx; simp only [flat] at hx; exact .agg _ _ hl hone fun i c y hi hy => ih i c y hi hy (flat_mem _ hx y (List.mem_of_getElem? hy))
    | tup cs xs hl _ ih => intro hx; simp only [flat] at hx; exact .tup _ _ hl fun i c y hi hy => ih i c y hi hy (flat_mem _ hx y (List.mem_of_getElem? hy))
    | nilptr => intro _; exact .nilptr
    | nilfn => intro _; exact .nilfn
    | fn f => intro hx; simp [flat] at hx
    | rptr => intro hx; simp [flat] at hx
    | junk v => intro _; exact .junk _
  induction h with
  | d v x h => exact hd v x h hx
  | osl => simp [flat] at hx
  | osl0 => simp [flat] at hx
  | view => simp [flat] at hx
  | view0 => simp [flat] at hx
  | ptr => simp [flat] at hx
  | mp => simp [flat] at hx
  | eptr => simp [flat] at hx
  | fn => simp [flat] at hx
  | agg cs xs hl hone _ ih => simp only [flat] at hx; exact .agg _ _ hl hone fun i c y hi hy => ih i c y hi hy (flat_mem _ hx y (List.mem_of_getElem? hy))
  | tup cs xs hl _ ih => simp only [flat] at hx; exact .tup _ _ hl fun i c y hi hy => ih i c y hi hy (flat_mem _ hx y (List.mem_of_getElem? hy))
  | junk v => exact .junk v

theorem RA.wf {v : Value} {x : V} (h : RA w F β s.o v x) (hx : isData x = true) : V.wf x := (h.data hx).wf

/-- What is lent is seen as data. -/
theorem lent_ra (hr : Rl P c z F β s tm w) {v : Value} {x : V} (h : RA w F β s.o v x) :
    RA w (fun b => F b ∧ ∀ id ent, olook s.o id = some ent → β id ≠ some b) (fun _ => none) [] v (V.sub (sview s.o) x) := by
  have hd : ∀ v x, RD w F v x → RD w (fun b => F b ∧ ∀ id ent, olook s.o id = some ent → β id ≠ some b) v x := hd_of (fun _ _ _ => rfl) (fun _ _ h => h.1) (Nat.le_refl _)
  refine RA.sub hd (fun v id hv => ?_) (fun v id off hv => .junk _) (fun v id i off hv => .junk _) (fun v id id' lo n he hv => by
    simp only [sview] at he
    split at he <;> cases he) (fun v id id' off he hv => by simp only [sview] at he; cases he) h
  obtain ⟨fx1, e1, sz, α, f, l, he, h2⟩ := RA.of_osl hv
  simp only [sview, he]
  refine .d _ _ ?_
  rcases h2 with ⟨rfl, rfl⟩ | ⟨b, cc, cur, hb, rfl, k2, k3, k4, k5, k6⟩
  · exact .nilsl _ sz (by simp [V.elems])
  · rcases hr.own.ent id _ he with ⟨h, _⟩ | ⟨b', cur', m1, m2, m3, m4, m5, m6⟩
    · rw [h] at hb; cases hb
    · rw [hb] at m1; cases m1
      rw [k5] at m3; cases m3
      have hget : ∀ (i : Nat) (e : V), (l.map f)[i]? = some e → ∃ p, l[i]? = some p ∧ e = f p := fun i e h => by
        rw [List.getElem?_map, Option.map_eq_some_iff] at h
        obtain ⟨p, h1, h2⟩ := h
        exact ⟨p, h1, h2.symm⟩
      have hlen : l.length = (l.map f).length := by simp
      rw [hlen]
      refine .slice _ sz (l.map f) (by simp [V.elems]) (by simp) ⟨b, 0, none⟩ cc (by simpa using k2) (by simpa using k4) (fun _ => rfl) (fun _ h => h.2 id _ he hb) (fun _ => blk_lt k5) (fun i e h => ?_)
        (fun i j => (cur[i * sz + j]?).getD undef) (fun i e h j y hy => ?_) (fun i e h j y hy => ?_) (fun i e h j y hy => ?_)
      · obtain ⟨p, h1, rfl⟩ := hget i e h
        exact (m6 i p h1).1
      · obtain ⟨p, h1, rfl⟩ := hget i e h
        obtain ⟨cv, n1, n2⟩ := (m6 i p h1).2 j y hy
        simp only [n1, Option.getD_some]
        exact m5 cv (Array.mem_of_getElem? n1)
      · obtain ⟨p, h1, rfl⟩ := hget i e h
        obtain ⟨cv, n1, n2⟩ := (m6 i p h1).2 j y hy
        simp [World.cell?, k5, n1]
      · obtain ⟨p, h1, rfl⟩ := hget i e h
        obtain ⟨cv, n1, n2⟩ := (m6 i p h1).2 j y hy
        simp only [n1, Option.getD_some]
        exact hd _ _ n2

end
end Go.Vg
/- Calls that are handed own things, and hand own things back: the state behind. -/
namespace Go.Vg
open Go

section
variable {P : Program} {c : Ctx} {z : From} {F : Nat → Prop} {β : Bt} {s : St} {tm : Array Value} {w : World}

theorem RA.purgeL {w w' : World} {F F' : Nat → Prop} {β β' : Bt} {o o' : Own} {l : List Nat} (hd : ∀ v x, RD w F v x → RD w' F' v x) (h : ∀ id ent, memN l id = false → olook o id = some ent → Same w β o w' β' o' id id) {v : Value} {x : V} (hx : RA w F β o v x) :
    RA w' F' β' o' v (V.sub (spurgeL l) x) := by
  refine RA.sub hd (fun v id hv => ?_) (fun v id off hv => ?_) (fun v id i off hv => ?_) (fun v id id' lo n he hv => ?_) (fun v id id' off he hv => ?_) hx
  · simp only [spurgeL]
    cases hb : memN l id with
    | true => exact .junk _
    | false =>
      obtain ⟨fx, e, sz, α, f, l, h1, _⟩ := RA.of_osl hv
      exact (h id _ hb h1).osl hv
  · simp only [spurgeL]
    cases hb : memN l id with
    | true => exact .junk _
    | false =>
      obtain ⟨b, cs, _, h1, _⟩ := RA.of_ptr hv
      exact (h id _ hb h1).ptr hv
  · simp only [spurgeL]
    cases hb : memN l id with
    | true => exact .junk _
    | false =>
      obtain ⟨b, fx, e, sz, n, α, f, l, _, h1, _⟩ := RA.of_eptr hv
      exact (h id _ hb h1).eptr hv
  · simp only [spurgeL] at he
    cases hb : memN l id with
    | true => rw [hb] at he; cases he
    | false =>
      rw [hb] at he
      simp only [cond_false, V.osl.injEq] at he
      subst he
      obtain ⟨fx, e, sz, α, f, l, i, m, h1, _⟩ := RA.of_view hv
      exact (h id _ hb h1).view hv
  · simp only [spurgeL] at he
    cases hb : memN l id with
    | true => rw [hb] at he; cases he
    | false =>
      rw [hb] at he
      simp only [cond_false, V.ptr.injEq] at he
      obtain ⟨rfl, _⟩ := he
      obtain ⟨b, α, f, l, _, h1, _⟩ := RA.of_mp hv
      exact (h id _ hb h1).mp hv
theorem RA.ren {w w' : World} {F F' : Nat → Prop} {β β' : Bt} {o o' : Own} {ι : Nat → Option Nat} (hd : ∀ v x, RD w F v x → RD w' F' v x) (h : ∀ id ent x, ι id = some x → olook o id = some ent → Same w β o w' β' o' id x) {v : Value} {x : V} (hx : RA w F β o v x) :
    RA w' F' β' o' v (V.sub (srn ι) x) := by
  refine RA.sub hd (fun v id hv => ?_) (fun v id off hv => ?_) (fun v id i off hv => ?_) (fun v id id' lo n he hv => ?_) (fun v id id' off he hv => ?_) hx
  · simp only [srn]
    split
    · rename_i x hx
      obtain ⟨fx, e, sz, α, f, l, h1, _⟩ := RA.of_osl hv
      exact (h id _ x hx h1).osl hv
    · exact .junk _
  · simp only [srn]
    split
    · rename_i x hx
      obtain ⟨b, cs, _, h1, _⟩ := RA.of_ptr hv
      exact (h id _ x hx h1).ptr hv
    · exact .junk _
  · simp only [srn]
    split
    · rename_i x hx
      obtain ⟨b, fx, e, sz, n, α, f, l, _, h1, _⟩ := RA.of_eptr hv
      exact (h id _ x hx h1).eptr hv
    · exact .junk _
  · simp only [srn] at he
    split at he
    · rename_i x hx
      simp only [V.osl.injEq] at he
      subst he
      obtain ⟨fx, e, sz, α, f, l, i, m, h1, _⟩ := RA.of_view hv
      exact (h id _ x hx h1).view hv
    · cases he
  · simp only [srn] at he
    split at he
    · rename_i x hx
      simp only [V.ptr.injEq] at he
      obtain ⟨rfl, _⟩ := he
      obtain ⟨b, α, f, l, _, h1, _⟩ := RA.of_mp hv
      exact (h id _ x hx h1).mp hv
    · cases he

theorem spurgeL_safe (l : List Nat) : (∀ id t b v, (spurgeL l).osl id ≠ .opt t b v) ∧ (∀ id b, (spurgeL l).osl id ≠ .nb b) ∧ (∀ id off t b v, (spurgeL l).ptr id off ≠ .opt t b v) ∧ (∀ id off b, (spurgeL l).ptr id off ≠ .nb b) ∧
    (∀ id i off t b v, (spurgeL l).eptr id i off ≠ .opt t b v) ∧ (∀ id i off b, (spurgeL l).eptr id i off ≠ .nb b) := by
  refine ⟨fun id t b v => ?_, fun id b => ?_, fun id off t b v => ?_, fun id off b => ?_, fun id i off t b v => ?_, fun id i off b => ?_⟩ <;> simp only [spurgeL] <;> cases memN l id <;> simp

/-- Two tellings of one own thing: of one kind, and as long. -/
def KindEq : Ent → Ent → Prop
  | .var _, .var _ => True
  | .map _ _, .map _ _ => True
  | .arr _ t sz _ l, .arr _ t' sz' _ l' => t = t' ∧ sz = sz' ∧ l.length = l'.length
  | _, _ => False

/-- The state behind a call that was handed own things. -/
theorem Rl.called (hr : Rl P c z F β s tm w) {w' : World} {F' : Nat → Prop} {oc o' : Own} {βc β' : Bt} {κ ι : Nat → Option Nat} {M : List Nat} {s' : St}
    -- what was handed over
    (hin : ∀ cid e0, olook oc cid = some e0 → ∃ X e, κ X = some cid ∧ βc cid = β X ∧ olook s.o X = some e ∧ KindEq e e0)
    -- what the call says
    (hF1 : ∀ b, F b → F' b) (hF2 : ∀ b, b < w.heap.size → F' b → F b) (hF3 : ∀ b, F' b → b < w'.heap.size) (hown : OwnOk w' F' β' o') (hdom : ∀ id, olook o' id = none → β' id = none) (hkeep : Keep (fun b => ∃ id ent, olook oc id = some ent ∧ βc id = some b) w w')
    (hfr : ∀ id ent b, olook o' id = some ent → β' id = some b → w.heap.size ≤ b ∨ ∃ ent', olook oc id = some ent' ∧ βc id = some b)
    (hhold : ∀ id ent0 ent, olook oc id = some ent0 → olook o' id = some ent → pinned ent0 = true → Same w βc oc w' β' o' id id)
    -- by which numbers
    (hκι : ∀ id cid, κ id = some cid ↔ ι cid = some id) (hcov : ∀ cid, (∃ id, κ id = some cid) ↔ ∃ ent, olook o' cid = some ent)
    -- who is in place, and who moved or is new
    (hM : ∀ id cid, κ id = some cid → memN M id = false → ∃ e0, olook oc cid = some e0 ∧ pinned e0 = true) (hMκ : ∀ id, memN M id = true → ∃ cid, κ id = some cid)
    (hMz : ∀ id ent0, memN M id = true → olook z.o id = some ent0 → pinned ent0 = false)
    -- the state
    (hA : ∀ t, look s'.e t = V.sub (spurgeL M) (look s.e t))
    (hB : ∀ id, olook s'.o id = match κ id with
      | some cid => (olook o' cid).map (Ent.sub (srn ι))
      | none => (olook s.o id).map (Ent.sub (spurgeL M)))
    (hT : ∀ id, memN s'.t id = false → κ id = none ∧ memN s.t id = false) :
    ∃ β'', Rl P c z F' β'' s' tm w' ∧ ∀ v x, RA w' F' β' o' v x → RA w' F' β'' s'.o v (V.sub (srn ι) x) := by
  refine ⟨fun id => match κ id with
    | some cid => β' cid
    | none => β id, ?_⟩
  generalize hβ : (fun id => match κ id with
    | some cid => β' cid
    | none => β id : Bt) = β''
  have b1 : ∀ id cid, κ id = some cid → β'' id = β' cid := fun id cid h => by subst hβ; simp [h]
  have b2 : ∀ id, κ id = none → β'' id = β id := fun id h => by subst hβ; simp [h]
  have oS : ∀ id cid, κ id = some cid → olook s'.o id = (olook o' cid).map (Ent.sub (srn ι)) := fun id cid h => by rw [hB, h]
  have oN : ∀ id, κ id = none → olook s'.o id = (olook s.o id).map (Ent.sub (spurgeL M)) := fun id h => by rw [hB, h]
  have hMN : ∀ id, κ id = none → memN M id = false := fun id h => by
    cases hm : memN M id with
    | false => rfl
    | true => obtain ⟨cid, hc⟩ := hMκ id hm; rw [h] at hc; cases hc
  -- the blocks that the call may have turned are own
  have hS : ∀ b, (∃ id ent, olook oc id = some ent ∧ βc id = some b) → ∃ X e cid, κ X = some cid ∧ β X = some b ∧ olook s.o X = some e := fun b ⟨id, ent, h1, h2⟩ => by
    obtain ⟨X, e, h3, h4, h5, _⟩ := hin id ent h1
    exact ⟨X, e, id, h3, by rw [← h4]; exact h2, h5⟩
  have hSF : ∀ b, (∃ id ent, olook oc id = some ent ∧ βc id = some b) → F b := fun b h => by
    obtain ⟨X, e, _, _, h1, h2⟩ := hS b h
    exact ((hr.own.ent X e h2).blk h1).1
  have hd : ∀ v x, RD w F v x → RD w' F' v x := fun v x h => h.keep hkeep hSF hF2
  have hkN : ∀ id e b, κ id = none → olook s.o id = some e → β id = some b → w'.heap[b]? = w.heap[b]? := fun id e b hn he hb => by
    obtain ⟨_, ob, h2⟩ := (hr.own.ent id e he).blk hb
    refine hkeep.block b (blk_lt h2) fun hs => ?_
    obtain ⟨X, e', cid, h3, h4, h5⟩ := hS b hs
    have := hr.own.inj id X b e e' he h5 hb h4
    subst this
    rw [hn] at h3; cases h3
  have sameN : ∀ id e, κ id = none → olook s.o id = some e → Same w β s.o w' β'' s'.o id id := fun id e hn he => by
    refine ⟨b2 id hn, fun cs h => ⟨_, by rw [oN id hn, h]; rfl⟩, fun fx t sz α f l h => ⟨fx, α, f, l, by rw [oN id hn, h]; rfl, rfl, fun b cur hb hc => ⟨cur, ?_, rfl⟩⟩, fun α f l h => ⟨α, f, l, by rw [oN id hn, h]; rfl⟩⟩
    rw [hkN id e b hn he hb]; exact hc
  have sameR : ∀ cid ent id, ι cid = some id → olook o' cid = some ent → Same w' β' o' w' β'' s'.o cid id := fun cid ent id hi he => by
    have hk := (hκι id cid).2 hi
    refine ⟨b1 id cid hk, fun cs h => ⟨_, by rw [oS id cid hk, h]; rfl⟩, fun fx t sz α f l h => ⟨fx, α, f, l, by rw [oS id cid hk, h]; rfl, rfl, fun b cur hb hc => ⟨cur, hc, rfl⟩⟩, fun α f l h => ⟨α, f, l, by rw [oS id cid hk, h]; rfl⟩⟩
  have sameI : ∀ id cid e, κ id = some cid → memN M id = false → olook s.o id = some e → Same w β s.o w' β'' s'.o id id := fun id cid e hk hm he => by
    obtain ⟨e0, h1, h2⟩ := hM id cid hk hm
    obtain ⟨X, e', h3, h4, h5, h6⟩ := hin cid e0 h1
    have hX : X = id := by
      have k1 := (hκι X cid).1 h3
      have k2 := (hκι id cid).1 hk
      rw [k1] at k2; cases k2; rfl
    subst hX
    rw [he] at h5; cases h5
    obtain ⟨ent, he'⟩ := (hcov cid).1 ⟨X, hk⟩
    have hsm := hhold cid e0 ent h1 he' h2
    have hrn := sameR cid ent X ((hκι X cid).1 hk) he'
    have hall := hsm.trans hrn
    refine ⟨hall.bt.trans h4, fun cs h => ?_, fun fx t sz α f l h => ?_, fun α f l h => ?_⟩
    · rw [he] at h; cases h
      cases e0 with
      | var cs0 => exact hall.var cs0 h1
      | arr => exact h6.elim
      | map => exact h6.elim
    rotate_left
    · rw [he] at h; cases h
      cases e0 with
      | var cs0 => exact h6.elim
      | arr => exact h6.elim
      | map f0 l0 => exact hall.map _ _ _ h1
    · rw [he] at h; cases h
      cases e0 with
      | var cs0 => exact h6.elim
      | map => exact h6.elim
      | arr fx0 t0 sz0 f0 l0 =>
        obtain ⟨rfl, rfl, h9⟩ := h6
        obtain ⟨fx', α', f', l', g1, g2, g3⟩ := hall.arr _ _ _ _ _ _ h1
        exact ⟨fx', α', f', l', g1, g2.trans h9.symm, fun b cur hb hc => g3 b cur (h4.trans hb) hc⟩
  have g : ∀ v x, RA w F β s.o v x → RA w' F' β'' s'.o v (V.sub (spurgeL M) x) := fun v x hx => RA.purgeL hd (fun id ent hm he => by
    cases hk : κ id with
    | none => exact sameN id ent hk he
    | some cid => exact sameI id cid ent hk hm he) hx
  have g2 : ∀ v x, RA w' F' β' o' v x → RA w' F' β'' s'.o v (V.sub (srn ι) x) := fun v x hx => RA.ren (fun _ _ h => h) (fun cid ent id hi he => sameR cid ent id hi he) hx
  have blkR : ∀ id cid b, κ id = some cid → β'' id = some b → ∃ ent, olook o' cid = some ent ∧ β' cid = some b := fun id cid b hk hb => by
    obtain ⟨ent, he⟩ := (hcov cid).1 ⟨id, hk⟩
    exact ⟨ent, he, by rw [← b1 id cid hk]; exact hb⟩
  have frR : ∀ id cid b, κ id = some cid → β'' id = some b → w.heap.size ≤ b ∨ ∃ X e cid', κ X = some cid' ∧ β X = some b ∧ olook s.o X = some e := fun id cid b hk hb => by
    obtain ⟨ent, he, hb'⟩ := blkR id cid b hk hb
    rcases hfr cid ent b he hb' with h | h
    · exact .inl h
    · obtain ⟨e0, h1, h2⟩ := h
      obtain ⟨X, e, cid', h1, h2, h3⟩ := hS b ⟨cid, e0, h1, h2⟩
      exact .inr ⟨X, e, cid', h1, h2, h3⟩
  obtain ⟨q1, q2, q3, q4, q5, q6⟩ := spurgeL_safe M
  refine ⟨{ n := hr.n, env := fun t => ?_, own := ⟨fun id e he => ?_, fun id id' b e e' he he' hb hb' => ?_⟩, F0F := fun b h => hF1 b (hr.F0F b h), Fnew := fun b hb h => hr.Fnew b hb (hF2 b (Nat.lt_of_lt_of_le hb hr.keep.size) h), Flt := hF3,
            dom := fun id h => ?_, fresh := fun id e b he hb => ?_, keep := ?_, glob := ⟨fun gg cs hg => hd _ _ (hr.glob.ok gg cs hg)⟩, tab := hr.tab, eqs := hr.eqs, low := hr.low, pins := hr.pins, zlt := hr.zlt, nw := fun id e b he hb => ?_, hold := fun id ent0 e h0 he hp => ?_,
            mk0 := Nat.le_trans hr.mk0 hkeep.size, mk1 := fun b hb hn => ?_, mk2 := fun id b hb hlt hm => ?_, prot := fun k o h => ?_ }, g2⟩
  rotate_right
  · obtain ⟨h1, h2, h3⟩ := hr.prot k o h
    refine ⟨hF1 k h1, (hkeep.block k (blk_lt h2) fun hs => ?_).trans h2, fun id hb => ?_⟩
    · obtain ⟨X, _, _, _, h4, _⟩ := hS k hs
      exact h3 X h4
    · cases hk : κ id with
      | none => rw [b2 id hk] at hb; exact h3 id hb
      | some cid =>
        rcases frR id cid k hk hb with h | ⟨X, _, _, _, h4, _⟩
        · have := blk_lt h2; omega
        · exact h3 X h4
  · rw [hA]; exact (hr.env t).sub g q1 q2 q3 q4 q5 q6
  · cases hk : κ id with
    | none =>
      rw [oN id hk, Option.map_eq_some_iff] at he
      obtain ⟨e1, h1, rfl⟩ := he
      exact EntOk.sub hd g (b2 id hk) (fun b hb => ⟨hkN id e1 b hk h1 hb, hF1 b ((hr.own.ent id e1 h1).blk hb).1⟩) (hr.own.ent id e1 h1)
    | some cid =>
      rw [oS id cid hk, Option.map_eq_some_iff] at he
      obtain ⟨e1, h1, rfl⟩ := he
      have := hown.ent cid e1 h1
      cases e1 with
      | var cs =>
        obtain ⟨b, cv, t, k1, k2, k3, k4, k5, k6⟩ := this
        refine ⟨b, cv, t, (b1 id cid hk).trans k1, k2, k3, by simpa [V.subl_eq] using k4, k5, fun i v x hi hx => ?_⟩
        rw [V.subl_eq, List.getElem?_map, Option.map_eq_some_iff] at hx
        obtain ⟨y, hy, rfl⟩ := hx
        exact g2 _ _ (k6 i v y hi hy)
      | arr fx t sz f l =>
        rcases this with ⟨k1, k2⟩ | ⟨b, cur, k1, k2, k3, k4, k5, k6⟩
        · exact .inl ⟨(b1 id cid hk).trans k1, k2⟩
        · exact .inr ⟨b, cur, (b1 id cid hk).trans k1, k2, k3, k4, k5, k6⟩
      | map f l =>
        obtain ⟨b, es, clock, k1, k2, k3⟩ := this
        exact ⟨b, es, clock, (b1 id cid hk).trans k1, k2, k3⟩
  · have cross : ∀ id id' cid e, κ id = some cid → κ id' = none → olook s.o id' = some e → β'' id = some b → β'' id' = some b → False := fun id id' cid e hk hn he hb hb' => by
      rw [b2 id' hn] at hb'
      obtain ⟨_, ob, h2⟩ := (hr.own.ent id' e he).blk hb'
      rcases frR id cid b hk hb with h | ⟨X, e2, cid', h3, h4, h5⟩
      · have := blk_lt h2; omega
      · have := hr.own.inj id' X b e e2 he h5 hb' h4
        subst this
        rw [hn] at h3; cases h3
    cases hk : κ id with
    | none =>
      rw [oN id hk, Option.map_eq_some_iff] at he
      obtain ⟨e1, h1, _⟩ := he
      cases hk' : κ id' with
      | none =>
        rw [oN id' hk', Option.map_eq_some_iff] at he'
        obtain ⟨e2, h2, _⟩ := he'
        rw [b2 id hk] at hb
        rw [b2 id' hk'] at hb'
        exact hr.own.inj id id' b e1 e2 h1 h2 hb hb'
      | some cid' => exact (cross id' id cid' e1 hk' hk h1 hb' hb).elim
    | some cid =>
      cases hk' : κ id' with
      | none =>
        rw [oN id' hk', Option.map_eq_some_iff] at he'
        obtain ⟨e2, h2, _⟩ := he'
        exact (cross id id' cid e2 hk hk' h2 hb hb').elim
      | some cid' =>
        obtain ⟨e1, h1, h2⟩ := blkR id cid b hk hb
        obtain ⟨e2, h3, h4⟩ := blkR id' cid' b hk' hb'
        have := hown.inj cid cid' b e1 e2 h1 h3 h2 h4
        subst this
        have k1 := (hκι id cid).1 hk
        have k2 := (hκι id' cid).1 hk'
        rw [k1] at k2; cases k2; rfl
  · cases hk : κ id with
    | none =>
      rw [oN id hk] at h
      rw [b2 id hk]
      exact hr.dom id (by simpa using h)
    | some cid =>
      rw [oS id cid hk] at h
      rw [b1 id cid hk]
      exact hdom cid (by simpa using h)
  · cases hk : κ id with
    | none =>
      rw [oN id hk, Option.map_eq_some_iff] at he
      obtain ⟨e1, h1, _⟩ := he
      rw [b2 id hk] at hb
      exact hr.fresh id e1 b h1 hb
    | some cid =>
      rcases frR id cid b hk hb with h | ⟨X, e2, cid', h3, h4, h5⟩
      · exact .inl (Nat.le_trans hr.keep.size h)
      · exact hr.fresh X e2 b h5 h4
  · refine hr.keep.trans hkeep fun b hb hs => ?_
    obtain ⟨X, e, cid, h1, h2, h3⟩ := hS b hs
    rcases hr.fresh X e b h3 h2 with h | h
    · omega
    · exact h
  · cases hk : κ id with
    | none =>
      rw [oN id hk, Option.map_eq_some_iff] at he
      obtain ⟨e1, h1, _⟩ := he
      rw [b2 id hk] at hb
      exact hr.nw id e1 b h1 hb
    | some cid =>
      obtain ⟨ent, he2, hb2⟩ := blkR id cid b hk hb
      rcases hfr cid ent b he2 hb2 with h | ⟨e0, h3, h4⟩
      · exact .inl (Nat.le_trans hr.keep.size h)
      · obtain ⟨X, e', h5, h6, h7, _⟩ := hin cid e0 h3
        have hX : X = id := by
          have k1 := (hκι X cid).1 h5
          have k2 := (hκι id cid).1 hk
          rw [k1] at k2; cases k2; rfl
        subst hX
        exact hr.nw X e' b h7 (by rw [← h6]; exact h4)
  · cases hk : κ id with
    | none =>
      rw [oN id hk, Option.map_eq_some_iff] at he
      obtain ⟨e1, h1, _⟩ := he
      exact (hr.hold id ent0 e1 h0 h1 hp).trans (sameN id e1 hk h1)
    | some cid =>
      cases hm : memN M id with
      | true => rw [hMz id ent0 hm h0] at hp; cases hp
      | false =>
        obtain ⟨e0, h1, _⟩ := hM id cid hk hm
        obtain ⟨X, e', h3, h4, h5, h6⟩ := hin cid e0 h1
        have hX : X = id := by
          have k1 := (hκι X cid).1 h3
          have k2 := (hκι id cid).1 hk
          rw [k1] at k2; cases k2; rfl
        subst hX
        exact (hr.hold X ent0 e' h0 h5 hp).trans (sameI X cid e' hk hm h5)
  · obtain ⟨h1, h2⟩ := hr.mk1 b hb hn
    have hlt := Nat.lt_of_lt_of_le hb hr.mk0
    exact ⟨(hkeep.block b hlt fun hs => h2 (hSF b hs)).trans h1, fun h => h2 (hF2 b hlt h)⟩
  · obtain ⟨hk, hm'⟩ := hT id hm
    obtain ⟨h1, h2⟩ := hr.mk2 id b hb hlt hm'
    have hlt' := Nat.lt_of_lt_of_le hlt hr.mk0
    rcases h2 with h2 | ⟨h2, ent1, h3⟩
    · exact ⟨(hkeep.block b hlt' fun hs => h2 (hSF b hs)).trans h1, .inl fun h => h2 (hF2 b hlt' h)⟩
    · exact ⟨(hkN id ent1 b hk h3 h2).trans h1, .inr ⟨(b2 id hk).trans h2, _, by rw [oN id hk, h3]; rfl⟩⟩

end
end Go.Vg
/- Own things told otherwise; numbers of own things. -/
namespace Go.Vg
open Go

theorem VEq.refl (x : V) : VEq x x := ⟨rfl, fun _ _ _ h1 h2 _ _ _ h => by rw [h1] at h2; cases h2; exact h⟩

/-- A slice's elements told otherwise. -/
theorem RD.retell {w : World} {F : Nat → Prop} {v : Value} {x y : V} {sz : Nat} {es es' : List V} (h : RD w F v x) (hx : x.elems = some (sz, es)) (hy : y.elems = some (sz, es')) (hne : y ≠ .nilsl) (hl : es.length = es'.length)
    (he : ∀ (i : Nat) (e e' : V), es[i]? = some e → es'[i]? = some e' → VEq e e') : RD w F v y := by
  cases h with
  | nilsl x sz' hx' =>
    rw [hx] at hx'
    cases hx'
    have : es' = [] := List.eq_nil_of_length_eq_zero (by simpa using hl.symm)
    subst this
    exact .nilsl _ _ hy
  | slice x sz' es0 hx' hnn a c hc hlm hs hF hb hsz cv hone hcv hr =>
    rw [hx] at hx'
    cases hx'
    have get : ∀ (i : Nat) (e' : V), es'[i]? = some e' → ∃ e, es[i]? = some e := fun i e' h => by
      have : i < es.length := by rw [hl]; exact (List.getElem?_eq_some_iff.1 h).1
      exact ⟨_, List.getElem?_eq_getElem this⟩
    have cell : ∀ (i : Nat) (e e' : V), es[i]? = some e → es'[i]? = some e' → ∀ (j : Nat) (y : V), (cells e')[j]? = some y → ∃ x, (cells e)[j]? = some x ∧ CEq x y := fun i e e' h1 h2 j y hj => (he i e e' h1 h2).get hj
    have hn : es' ≠ [] → es ≠ [] := fun h h' => h (List.eq_nil_of_length_eq_zero (by rw [← hl, h']; rfl))
    rw [hl]
    refine .slice _ sz es' hy hne a c (by omega) (by omega) (fun h => hs (hn h)) (fun h => hF (hn h)) (fun h => hb (hn h)) (fun i e' h => ?_) cv (fun i e' h j y hj => ?_) (fun i e' h j y hj => ?_) (fun i e' h j y hj => ?_)
    · obtain ⟨e, h1⟩ := get i e' h
      rw [← hsz i e h1]; exact (he i e e' h1 h).1.symm
    · obtain ⟨e, h1⟩ := get i e' h
      obtain ⟨x, g1, g2⟩ := cell i e e' h1 h j y hj
      exact hone i e h1 j x g1
    · obtain ⟨e, h1⟩ := get i e' h
      obtain ⟨x, g1, g2⟩ := cell i e e' h1 h j y hj
      exact hcv i e h1 j x g1
    · obtain ⟨e, h1⟩ := get i e' h
      obtain ⟨x, g1, g2⟩ := cell i e e' h1 h j y hj
      exact g2 _ _ _ (hr i e h1 j x g1)
  | _ => simp [V.elems] at hx

mutual
theorem LeP.ra {w : World} {F : Nat → Prop} {β : Bt} {o : Own} : {x y : V} → LeP o x y → ∀ {v : Value}, RA w F β o v x → RA w F β o v y
  | _, _, .same x, v, h => h
  | _, _, .junk x, v, h => .junk v
  | _, _, .int k e e' he, v, h => by
    obtain ⟨h1, h2⟩ := RA.of_int h
    subst h1
    exact ra_int he.symm h2
  | _, _, .bool e e' he, v, h => by rw [RA.of_bool h]; exact ra_bool he.symm
  | _, _, .str e e' he, v, h => by
    obtain ⟨h1, h2⟩ := RA.of_str h
    subst h1
    exact .d _ _ (.str _ _ (by rw [he]) (by rw [← he]; exact h2))
  | _, _, .sl sz f l l' he, v, h => by subst he; exact h
  | _, _, .sl' sz x es hx f l hl he, v, h => .d _ _ ((RA.of_elems h hx).retell hx rfl (by simp) (by simpa using hl) fun i e e' h1 h2 => by
      rw [List.getElem?_map, Option.map_eq_some_iff] at h2
      obtain ⟨p, hp, rfl⟩ := h2
      exact he i e p h1 hp)
  | _, _, .nil sz f l hl, v, h => by subst hl; rw [RA.of_nilsl h]; exact .d _ _ (.nilsl _ sz rfl)
  | _, _, .own id fx e sz f l ho hl, v, h => by subst hl; rw [RA.of_nilsl h]; exact .osl0 id fx e sz f ho
  | _, _, .agg xs ys hl, v, h => by
    obtain ⟨cs, rfl, h1, h2, h3⟩ := RA.of_agg h
    obtain ⟨g1, g2⟩ := LePl.ra hl h1 h3
    exact .agg _ _ g1 h2 g2
  | _, _, .tup xs ys hl, v, h => by
    obtain ⟨cs, rfl, h1, h3⟩ := RA.of_tup h
    obtain ⟨g1, g2⟩ := LePl.ra hl h1 h3
    exact .tup _ _ g1 g2
  | _, _, .fn f xs xs' ys ys' hl hl', v, h => by
    obtain ⟨fs, cs, rfl, h1, h2, h3, h4⟩ := RA.of_fn h
    obtain ⟨g1, g2⟩ := LePl.ra hl h1 h3
    obtain ⟨g3, g4⟩ := LePl.ra hl' h2 h4
    exact .fn _ _ _ _ _ g1 g3 g2 g4
  | _, _, .rptr xs ys hl, v, h => by
    have h := h.data (x := .rptr xs) rfl
    generalize hz : V.rptr xs = z at h
    cases h with
    | rptr a xs' hs hF hb cv hone hcv hr =>
      cases hz
      refine .d _ _ (.rptr a ys hs hF hb cv (fun j y hy => ?_) (fun j y hy => ?_) (fun j y hy => ?_))
      · obtain ⟨x, hx, _⟩ := hl.get hy; exact hone j x hx
      · obtain ⟨x, hx, _⟩ := hl.get hy; exact hcv j x hx
      · obtain ⟨x, hx, hc⟩ := hl.get hy; exact hc _ _ _ (hr j x hx)
    | nilsl x sz hx => subst hz; simp [V.elems] at hx
    | slice x sz es hx => subst hz; simp [V.elems] at hx
    | _ => cases hz
theorem LePl.ra {w : World} {F : Nat → Prop} {β : Bt} {o : Own} : {xs ys : List V} → LePl o xs ys → ∀ {cs : Array Value}, cs.size = xs.length → (∀ (i : Nat) (c : Value) (x : V), cs[i]? = some c → xs[i]? = some x → RA w F β o c x) →
    cs.size = ys.length ∧ ∀ (i : Nat) (c : Value) (x : V), cs[i]? = some c → ys[i]? = some x → RA w F β o c x
  | _, _, .nil, cs, h1, h2 => ⟨h1, h2⟩
  | _, _, .cons x y xs ys hx hr, cs, h1, h2 => by
    have h3 : (cs.toList.drop 1).toArray.size = xs.length := by simp at h1 ⊢; omega
    obtain ⟨g1, g2⟩ := LePl.ra hr (cs := (cs.toList.drop 1).toArray) h3 (fun i c x hi hx => h2 (i + 1) c x (by simpa [List.getElem?_drop, Nat.add_comm] using hi) (by simpa using hx))
    refine ⟨by simp at h1 g1 ⊢; omega, fun i c x' hi hx' => ?_⟩
    cases i with
    | zero =>
      simp at hx'; subst hx'
      exact LeP.ra hx (h2 0 c x hi rfl)
    | succ i => exact g2 i c x' (by simpa [List.getElem?_drop, Nat.add_comm] using hi) (by simpa using hx')
end

theorem LeP.re {w : World} {F : Nat → Prop} {β : Bt} {o : Own} {tm : Array Value} {x y : V} (h : LeP o x y) {v : Value} (hv : RE w F β o tm v x) : RE w F β o tm v y := by
  have key : (∀ t b u, x ≠ .opt t b u) → (∀ b, x ≠ .nb b) → (∀ t b u, y ≠ .opt t b u) → (∀ b, y ≠ .nb b) → RE w F β o tm v y := fun h1 h2 h3 h4 => by
    have := h.ra (hv.ra h1 h2)
    cases y <;> first | exact this | exact absurd rfl (h3 _ _ _) | exact absurd rfl (h4 _)
  cases h with
  | same => exact hv
  | junk => exact .junk _
  | sl' sz x es hx f l hl he => exact key (by intro t b u e; subst e; simp [V.elems] at hx) (by intro b e; subst e; simp [V.elems] at hx) (by simp) (by simp)
  | _ => exact key (by simp) (by simp) (by simp) (by simp)

theorem mem_iff (l : List Nat) (n : Nat) : memN l n = true ↔ n ∈ l := by
  induction l with
  | nil => simp [memN]
  | cons a r ih =>
    simp only [memN, Bool.or_eq_true, ih, List.mem_cons]
    constructor
    · rintro (h | h)
      · exact .inl (eqN_true h).symm
      · exact .inr h
    · rintro (h | h)
      · left; rw [h]; simp
      · exact .inr h

theorem olook_erase_ids {o : Own} {x : Nat} {e : Ent} (h : olook o x = some e) : x ∈ oids o := by
  induction o with
  | nil => simp [olook] at h
  | cons a r ih =>
    obtain ⟨k, v⟩ := a
    simp only [olook] at h
    simp only [oids, List.mem_cons]
    cases hb : (eqN k x) with
    | true => left; exact (eqN_true hb).symm
    | false => rw [hb] at h; right; exact ih h

theorem leO_spec {o' : Own} {o : Own} : ∀ (l : Own), leO o' o l → ∀ x e, olook l x = some e → ∃ e1 e2, olook o x = some e1 ∧ olook o' x = some e2 ∧ EntLe o' e1 e2
  | [], _, x, e, h => by simp [olook] at h
  | (y, e0) :: r, hl, x, e, h => by
    simp only [leO] at hl
    split at hl
    · rename_i e1 e2 h1 h2
      simp only [olook] at h
      cases hb : (eqN y x) with
      | true =>
        have := eqN_true hb
        subst this
        exact ⟨e1, e2, h1, h2, hl.1⟩
      | false =>
        rw [hb] at h
        exact leO_spec r hl.2 x e h
    · exact hl.elim

theorem own_retell {w : World} {F : Nat → Prop} {β : Bt} {o o' : Own} (hown : OwnOk w F β o) (hn : ∀ id, olook o id = none → olook o' id = none) (ho : ∀ id e, olook o id = some e → ∃ e', olook o' id = some e' ∧ EntLe o' e e') :
    OwnOk w F β o' ∧ (∀ v x, RA w F β o v x → RA w F β o' v x) ∧ ∀ id e, olook o id = some e → Same w β o w β o' id id := by
  have old : ∀ id e', olook o' id = some e' → ∃ e, olook o id = some e ∧ EntLe o' e e' := fun id e' h => by
    cases h1 : olook o id with
    | none => rw [hn id h1] at h; cases h
    | some e =>
      obtain ⟨e2, h2, h3⟩ := ho id e h1
      rw [h] at h2; cases h2
      exact ⟨e, rfl, h3⟩
  have hsame : ∀ id e1, olook o id = some e1 → Same w β o w β o' id id := fun id e1 h1 => by
    obtain ⟨e', h2, h3⟩ := ho id e1 h1
    refine ⟨rfl, fun cs h => ?_, fun fx e sz α f l h => ?_, fun α f l h => ?_⟩
    · rw [h1] at h; cases h
      cases h3 with
      | same => exact ⟨cs, h2⟩
      | var xs ys h => exact ⟨ys, h2⟩
    rotate_left
    · rw [h1] at h; cases h
      cases h3 with
      | same => exact ⟨_, _, _, h2⟩
      | map f l l' h => exact ⟨_, _, _, h2⟩
    · rw [h1] at h; cases h
      cases h3 with
      | same => exact ⟨fx, α, f, l, h2, rfl, fun b cur hb hc => ⟨cur, hc, rfl⟩⟩
      | arr fx e sz f l l' h => exact ⟨fx, α, f, l', h2, by rw [h], fun b cur hb hc => ⟨cur, hc, rfl⟩⟩
      | arr' fx e sz f f' l l' hl h => exact ⟨fx, _, f', l', h2, hl.symm, fun b cur hb hc => ⟨cur, hc, rfl⟩⟩
      | pin e sz f l l' h => exact ⟨true, α, f, l', h2, by rw [h], fun b cur hb hc => ⟨cur, hc, rfl⟩⟩
      | unpin e sz f l l' h => exact ⟨false, α, f, l', h2, by rw [h], fun b cur hb hc => ⟨cur, hc, rfl⟩⟩
  have g : ∀ v x, RA w F β o v x → RA w F β o' v x := fun v x hx => RA.stay (fun _ _ h => h) hsame hx
  have g' : ∀ v x, RA w F β o v x → RA w F β o' v (V.sub sid x) := fun v x hx => by rw [V.sub_id]; exact g v x hx
  refine ⟨⟨fun id e1 h1 => ?_, fun id id' b e1 e2 h1 h2 hb1 hb2 => ?_⟩, g, hsame⟩
  · obtain ⟨e2, h2, h3⟩ := old id e1 h1
    have := EntOk.sub (σ := sid) (o' := o') (fun _ _ h => h) g' rfl (fun b hb => ⟨rfl, ((hown.ent id e2 h2).blk hb).1⟩) (hown.ent id e2 h2)
    have e : Ent.sub sid e2 = e2 := by cases e2 <;> simp [Ent.sub, V.subl_id]
    rw [e] at this
    cases h3 with
    | same => exact this
    | var xs ys h =>
      obtain ⟨b, cs, t, k1, k2, k3, k4, k5, k6⟩ := this
      obtain ⟨m1, m2⟩ := LePl.ra h k4 k6
      exact ⟨b, cs, t, k1, k2, k3, m1, k5, m2⟩
    | arr fx e sz f l l' h => subst h; exact this
    | map f l l' h => subst h; exact this
    | pin e sz f l l' h => subst h; exact this
    | unpin e sz f l l' h => subst h; exact this
    | arr' fx e sz f f' l l' hl h =>
      rcases this with ⟨k1, k2⟩ | ⟨b, cur, k1, k2, k3, k4, k5, k6⟩
      · exact .inl ⟨k1, List.eq_nil_of_length_eq_zero (by rw [← hl, k2]; rfl)⟩
      · refine .inr ⟨b, cur, k1, k2, k3, by rw [← hl]; exact k4, k5, fun i p' hp' => ?_⟩
        have hlt : i < l.length := by rw [hl]; exact (List.getElem?_eq_some_iff.1 hp').1
        have hp : l[i]? = some l[i] := List.getElem?_eq_getElem hlt
        obtain ⟨m1, m2⟩ := k6 i _ hp
        have hv := h i _ p' hp hp'
        refine ⟨by rw [← hv.1]; exact m1, fun j y hj => ?_⟩
        obtain ⟨x, n1, n2⟩ := CEqL.get hv hj
        obtain ⟨cv, n3, n4⟩ := m2 j x n1
        exact ⟨cv, n3, n2 _ _ _ n4⟩
  · obtain ⟨e3, h3, _⟩ := old id e1 h1
    obtain ⟨e4, h4, _⟩ := old id' e2 h2
    exact hown.inj id id' b e3 e4 h3 h4 hb1 hb2

theorem EntLe.kind {o : Own} {e e' : Ent} (h : EntLe o e e') : KindEq e e' := by
  cases h with
  | same => cases e <;> simp [KindEq]
  | var => simp [KindEq]
  | arr _ _ _ _ _ _ h => subst h; simp [KindEq]
  | arr' _ _ _ _ _ _ _ hl => simp [KindEq, hl]
  | pin _ _ _ _ _ h => subst h; simp [KindEq]
  | unpin _ _ _ _ _ h => subst h; simp [KindEq]
  | map => simp [KindEq]
theorem KindEq.sub {σ : Sub} {e e' : Ent} (h : KindEq (Ent.sub σ e) e') : KindEq e e' := by
  cases e <;> cases e' <;> exact h
theorem pinned_sub (σ : Sub) (e : Ent) : pinned (Ent.sub σ e) = pinned e := by cases e <;> rfl

/-! ### Numbers -/

theorem kap_mem {outs : Outs} {x c : Nat} (h : kap outs x = some c) : ∃ m, (x, c, m) ∈ outs := by
  induction outs with
  | nil => simp [kap] at h
  | cons a r ih =>
    obtain ⟨x', c', m'⟩ := a
    simp only [kap] at h
    cases hb : (eqN x' x) with
    | true =>
      rw [hb] at h
      simp only [cond_true, Option.some.injEq] at h
      rw [eqN_true hb] 
      exact ⟨m', by rw [h]; exact List.mem_cons_self⟩
    | false =>
      rw [hb] at h
      obtain ⟨m, hm⟩ := ih h
      exact ⟨m, List.mem_cons_of_mem _ hm⟩
theorem iot_mem {outs : Outs} {x c : Nat} (h : iot outs c = some x) : ∃ m, (x, c, m) ∈ outs := by
  induction outs with
  | nil => simp [iot] at h
  | cons a r ih =>
    obtain ⟨x', c', m'⟩ := a
    simp only [iot] at h
    cases hb : (eqN c' c) with
    | true =>
      rw [hb] at h
      simp only [cond_true, Option.some.injEq] at h
      rw [eqN_true hb]
      exact ⟨m', by rw [h]; exact List.mem_cons_self⟩
    | false =>
      rw [hb] at h
      obtain ⟨m, hm⟩ := ih h
      exact ⟨m, List.mem_cons_of_mem _ hm⟩
theorem outX_mem {outs : Outs} {x c : Nat} {m : Bool} (h : (x, c, m) ∈ outs) : memN (outX outs) x = true := by
  induction outs with
  | nil => cases h
  | cons a r ih =>
    obtain ⟨x', c', m'⟩ := a
    simp only [outX, memN, Bool.or_eq_true]
    rcases List.mem_cons.1 h with h | h
    · cases h; left; simp
    · right; exact ih h
theorem outC_mem {outs : Outs} {x c : Nat} {m : Bool} (h : (x, c, m) ∈ outs) : memN (outC outs) c = true := by
  induction outs with
  | nil => cases h
  | cons a r ih =>
    obtain ⟨x', c', m'⟩ := a
    simp only [outC, memN, Bool.or_eq_true]
    rcases List.mem_cons.1 h with h | h
    · cases h; left; simp
    · right; exact ih h
theorem outC_of {outs : Outs} {c : Nat} (h : memN (outC outs) c = true) : ∃ x m, (x, c, m) ∈ outs := by
  induction outs with
  | nil => cases h
  | cons a r ih =>
    obtain ⟨x', c', m'⟩ := a
    simp only [outC, memN, Bool.or_eq_true] at h
    rcases h with h | h
    · exact ⟨x', m', by rw [eqN_true h]; exact List.mem_cons_self⟩
    · obtain ⟨x, m, hm⟩ := ih h
      exact ⟨x, m, List.mem_cons_of_mem _ hm⟩
theorem kap_of {outs : Outs} (hn : nodupN (outX outs) = true) {x c : Nat} {m : Bool} (h : (x, c, m) ∈ outs) : kap outs x = some c := by
  induction outs with
  | nil => cases h
  | cons a r ih =>
    obtain ⟨x', c', m'⟩ := a
    simp only [outX, nodupN, Bool.and_eq_true, Bool.not_eq_true'] at hn
    simp only [kap]
    rcases List.mem_cons.1 h with h | h
    · cases h; simp
    · cases hb : (eqN x' x) with
      | true => rw [eqN_true hb, outX_mem h] at hn; cases hn.1
      | false => exact ih hn.2 h
theorem iot_of {outs : Outs} (hn : nodupN (outC outs) = true) {x c : Nat} {m : Bool} (h : (x, c, m) ∈ outs) : iot outs c = some x := by
  induction outs with
  | nil => cases h
  | cons a r ih =>
    obtain ⟨x', c', m'⟩ := a
    simp only [outC, nodupN, Bool.and_eq_true, Bool.not_eq_true'] at hn
    simp only [iot]
    rcases List.mem_cons.1 h with h | h
    · cases h; simp
    · cases hb : (eqN c' c) with
      | true => rw [eqN_true hb, outC_mem h] at hn; cases hn.1
      | false => exact ih hn.2 h
theorem insO_mem {outs : Outs} {x c : Nat} {m : Bool} : (x, c, m) ∈ insO outs ↔ (x, c, m) ∈ outs ∧ c < 20000 := by
  induction outs with
  | nil => simp [insO]
  | cons a r ih =>
    obtain ⟨x', c', m'⟩ := a
    simp only [insO]
    cases hb : (ltN c' 20000) with
    | true =>
      have : c' < 20000 := by simpa using hb
      simp only [cond_true, List.mem_cons, ih, Prod.mk.injEq]
      constructor
      · rintro (⟨rfl, rfl, rfl⟩ | ⟨h1, h2⟩)
        · exact ⟨.inl ⟨rfl, rfl, rfl⟩, this⟩
        · exact ⟨.inr h1, h2⟩
      · rintro ⟨⟨rfl, rfl, rfl⟩ | h1, h2⟩
        · exact .inl ⟨rfl, rfl, rfl⟩
        · exact .inr ⟨h1, h2⟩
    | false =>
      have : ¬ c' < 20000 := by intro h; rw [show (ltN c' 20000) = true from ltN_iff.2 h] at hb; cases hb
      simp only [cond_false, List.mem_cons, ih, Prod.mk.injEq]
      constructor
      · rintro ⟨h1, h2⟩; exact ⟨.inr h1, h2⟩
      · rintro ⟨⟨rfl, rfl, rfl⟩ | h1, h2⟩
        · exact absurd h2 this
        · exact ⟨h1, h2⟩
theorem insO_nodup {outs : Outs} (hx : nodupN (outX outs) = true) (hc : nodupN (outC outs) = true) : nodupN (outX (insO outs)) = true ∧ nodupN (outC (insO outs)) = true := by
  induction outs with
  | nil => exact ⟨rfl, rfl⟩
  | cons a r ih =>
    obtain ⟨x', c', m'⟩ := a
    simp only [outX, outC, nodupN, Bool.and_eq_true, Bool.not_eq_true'] at hx hc
    obtain ⟨i1, i2⟩ := ih hx.2 hc.2
    simp only [insO]
    cases hb : (ltN c' 20000) with
    | true =>
      simp only [cond_true, outX, outC, nodupN, Bool.and_eq_true, Bool.not_eq_true']
      refine ⟨⟨?_, i1⟩, ⟨?_, i2⟩⟩
      · cases hm : memN (outX (insO r)) x' with
        | false => rfl
        | true =>
          have : ∀ l : Outs, memN (outX l) x' = true → ∃ c m, (x', c, m) ∈ l := fun l => by
            induction l with
            | nil => intro h; cases h
            | cons a r ih =>
              obtain ⟨x2, c2, m2⟩ := a
              intro h
              simp only [outX, memN, Bool.or_eq_true] at h
              rcases h with h | h
              · exact ⟨c2, m2, by rw [eqN_true h]; exact List.mem_cons_self⟩
              · obtain ⟨c, m, hm⟩ := ih h
                exact ⟨c, m, List.mem_cons_of_mem _ hm⟩
          obtain ⟨c, m, hm⟩ := this _ hm
          rw [outX_mem (insO_mem.1 hm).1] at hx; cases hx.1
      · cases hm : memN (outC (insO r)) c' with
        | false => rfl
        | true =>
          obtain ⟨x, m, hm⟩ := outC_of hm
          rw [outC_mem (insO_mem.1 hm).1] at hc; cases hc.1
    | false => exact ⟨i1, i2⟩

theorem ocOf_look {s : St} {σ : Sub} : ∀ (l : Outs), nodupN (outC l) = true → ∀ cid e0, olook (ocOf l s σ) cid = some e0 ↔ ∃ x m e, (x, cid, m) ∈ l ∧ olook s.o x = some e ∧ e0 = Ent.sub σ e
  | [], _, cid, e0 => by simp [ocOf, olook]
  | (x, c, m) :: r, hn, cid, e0 => by
    simp only [outC, nodupN, Bool.and_eq_true, Bool.not_eq_true'] at hn
    have ih := ocOf_look r hn.2 cid e0 (s := s) (σ := σ)
    have hnc : ∀ y m, (y, c, m) ∈ r → False := fun y m h => by rw [outC_mem h] at hn; cases hn.1
    simp only [ocOf]
    cases hx : olook s.o x with
    | none =>
      rw [ih]
      constructor
      · rintro ⟨y, m', e, h1, h2, h3⟩; exact ⟨y, m', e, List.mem_cons_of_mem _ h1, h2, h3⟩
      · rintro ⟨y, m', e, h1, h2, h3⟩
        rcases List.mem_cons.1 h1 with h1 | h1
        · cases h1; rw [hx] at h2; cases h2
        · exact ⟨y, m', e, h1, h2, h3⟩
    | some e =>
      simp only [olook]
      cases hb : (eqN c cid) with
      | true =>
        have := eqN_true hb
        subst this
        simp only [cond_true, Option.some.injEq]
        constructor
        · intro h; exact ⟨x, m, e, List.mem_cons_self, hx, h.symm⟩
        · rintro ⟨y, m', e', h1, h2, h3⟩
          rcases List.mem_cons.1 h1 with h1 | h1
          · cases h1; rw [hx] at h2; cases h2; exact h3.symm
          · exact (hnc y m' h1).elim
      | false =>
        simp only [cond_false]
        rw [ih]
        constructor
        · rintro ⟨y, m', e', h1, h2, h3⟩; exact ⟨y, m', e', List.mem_cons_of_mem _ h1, h2, h3⟩
        · rintro ⟨y, m', e', h1, h2, h3⟩
          rcases List.mem_cons.1 h1 with h1 | h1
          · cases h1; simp at hb
          · exact ⟨y, m', e', h1, h2, h3⟩

theorem entsOn_usOf {o1 on : Own} {σ : Sub} : ∀ (l : Outs), nodupN (outX l) = true → (∀ x c m, (x, c, m) ∈ l → ∃ e, olook o1 c = some e) → ∀ id, olook (entsOn (usOf l o1 σ) on) id = match kap l id with
    | some c => (olook o1 c).map (Ent.sub σ)
    | none => olook on id
  | [], _, _, id => rfl
  | (x, c, m) :: r, hn, hc, id => by
    simp only [outX, nodupN, Bool.and_eq_true, Bool.not_eq_true'] at hn
    obtain ⟨e, he⟩ := hc x c m List.mem_cons_self
    simp only [usOf, he, entsOn, olook, kap]
    cases hb : (eqN x id) with
    | true => simp [he]
    | false => exact entsOn_usOf r hn.2 (fun x c m h => hc x c m (List.mem_cons_of_mem _ h)) id
theorem idsU_usOf {o1 : Own} {σ : Sub} : ∀ (l : Outs), (∀ x c m, (x, c, m) ∈ l → ∃ e, olook o1 c = some e) → idsU (usOf l o1 σ) = outX l
  | [], _ => rfl
  | (x, c, m) :: r, hc => by
    obtain ⟨e, he⟩ := hc x c m List.mem_cons_self
    simp only [usOf, he, idsU, outX, idsU_usOf r fun x c m h => hc x c m (List.mem_cons_of_mem _ h)]
theorem movedU_usOf {o1 : Own} {σ : Sub} : ∀ (l : Outs), (∀ x c m, (x, c, m) ∈ l → ∃ e, olook o1 c = some e) → ∀ id, memN (movedU (usOf l o1 σ)) id = true ↔ ∃ c, (id, c, true) ∈ l
  | [], _, id => by simp [usOf, movedU, memN]
  | (x, c, m) :: r, hc, id => by
    obtain ⟨e, he⟩ := hc x c m List.mem_cons_self
    have ih := movedU_usOf r (fun x c m h => hc x c m (List.mem_cons_of_mem _ h)) id (o1 := o1) (σ := σ)
    simp only [usOf, he]
    cases m with
    | true =>
      simp only [movedU, memN, Bool.or_eq_true, ih, List.mem_cons, Prod.mk.injEq]
      constructor
      · rintro (h | ⟨c', h⟩)
        · exact ⟨c, .inl ⟨(eqN_true h).symm, rfl, trivial⟩⟩
        · exact ⟨c', .inr h⟩
      · rintro ⟨c', ⟨rfl, rfl, _⟩ | h⟩
        · left; simp
        · exact .inr ⟨c', h⟩
    | false =>
      simp only [movedU, ih, List.mem_cons, Prod.mk.injEq]
      constructor
      · rintro ⟨c', h⟩; exact ⟨c', .inr h⟩
      · rintro ⟨c', ⟨_, _, h⟩ | h⟩
        · cases h
        · exact ⟨c', h⟩
theorem memN_cat (a b : List Nat) (n : Nat) : memN (catN a b) n = (memN a n || memN b n) := by
  induction a with
  | nil => simp [catN, memN]
  | cons x r ih => simp [catN, memN, ih, Bool.or_assoc]
theorem olook_oeraseL : ∀ (l : List Nat) (o : Own) (id : Nat), olook (oeraseL l o) id = if memN l id = true then none else olook o id
  | [], o, id => by simp [oeraseL, memN]
  | x :: r, o, id => by
    simp only [oeraseL, olook_oeraseL r, memN, olook_oerase, Bool.or_eq_true]
    by_cases h : memN r id = true
    · simp [h]
    · by_cases e : id = x
      · subst e; simp [h]
      · have : (eqN x id) = false := beq_false e
        simp [h, e, this]
theorem subN_spec {l m : List Nat} (h : subN l m = true) {x : Nat} (hx : memN l x = true) : memN m x = true := by
  induction l with
  | nil => cases hx
  | cons a r ih =>
    simp only [subN, Bool.and_eq_true] at h
    simp only [memN, Bool.or_eq_true] at hx
    rcases hx with hx | hx
    · rw [← eqN_true hx]; exact h.1
    · exact ih h.2 hx
theorem oids_look {o : Own} {x : Nat} : memN (oids o) x = true ↔ ∃ e, olook o x = some e := by
  induction o with
  | nil => simp [oids, memN, olook]
  | cons a r ih =>
    obtain ⟨k, v⟩ := a
    simp only [oids, memN, Bool.or_eq_true, ih, olook]
    cases hb : (eqN k x) <;> simp
theorem movesOk_spec {c : Ctx} {s : St} {oc : Own} : ∀ {l : Outs}, movesOk c s oc l = true → ∀ x cid m, (x, cid, m) ∈ l → (cid < 20000 → ∃ e e', olook s.o x = some e ∧ olook oc cid = some e' ∧ (m = false → pinned e' = true)) ∧ (¬ cid < 20000 → m = true) ∧ (m = true → x < 10000 ∨ memN c.pin x = false)
  | [], _, _, _, _, h => by cases h
  | (x', c', m') :: r, h, x, cid, m, hm => by
    simp only [movesOk, Bool.and_eq_true] at h
    rcases List.mem_cons.1 hm with hm | hm
    · cases hm
      obtain ⟨⟨h1, h2⟩, _⟩ := h
      refine ⟨fun hlt => ?_, fun hnl => ?_, fun hm => ?_⟩
      · rw [show (ltN c' 20000) = true from ltN_iff.2 hlt] at h1
        simp only [cond_true] at h1
        split at h1
        · rename_i e e' he he'
          exact ⟨e, e', he, he', fun hm => by subst hm; simpa using h1⟩
        · cases h1
      · have : (ltN c' 20000) = false := by
          cases hb : (ltN c' 20000) with
          | false => rfl
          | true => exact absurd (by simpa using hb) hnl
        rw [this] at h1
        exact h1
      · subst hm
        simp only [Bool.not_true, Bool.false_or, Bool.or_eq_true, Bool.not_eq_true'] at h2
        rcases h2 with h2 | h2
        · exact .inl (by simpa using h2)
        · exact .inr h2
    · exact movesOk_spec h.2 x cid m hm
theorem allHigh_spec {l : List Nat} (h : allHigh l = true) {x : Nat} (hx : memN l x = true) : 10000 ≤ x := by
  induction l with
  | nil => cases hx
  | cons a r ih =>
    simp only [allHigh, Bool.and_eq_true] at h
    simp only [memN, Bool.or_eq_true] at hx
    rcases hx with hx | hx
    · rw [← eqN_true hx]; exact leN_true h.1
    · exact ih h.2 hx

end Go.Vg
/- The conditions suffice: calls, own things handed over too. -/
namespace Go.Vg
open Go

theorem LePl.len {o : Own} : ∀ {xs ys : List V}, LePl o xs ys → xs.length = ys.length
  | _, _, .nil => rfl
  | _, _, .cons _ _ _ _ _ r => by simp [LePl.len r]

theorem RA.wf' {w : World} {F : Nat → Prop} {β : Bt} {o : Own} {v : Value} {x : V} (h : RA w F β o v x) : V.wf x := by
  induction h with
  | d v x h => exact h.wf
  | agg cs xs hl hone _ ih =>
    simp only [V.wf, V.wfl_iff]
    intro y hy
    obtain ⟨j, hj⟩ := mem_of_getElem? hy
    have hlt : j < cs.size := by rw [hl]; exact (List.getElem?_eq_some_iff.1 hj).1
    exact ih j _ y (Array.getElem?_eq_getElem hlt) hj
  | tup cs xs hl _ ih =>
    simp only [V.wf, V.wfl_iff]
    intro y hy
    obtain ⟨j, hj⟩ := mem_of_getElem? hy
    have hlt : j < cs.size := by rw [hl]; exact (List.getElem?_eq_some_iff.1 hj).1
    exact ih j _ y (Array.getElem?_eq_getElem hlt) hj
  | _ => simp [V.wf]

section
variable {P : Program} {c : Ctx} {z : From} {F : Nat → Prop} {β : Bt} {s : St} {tm : Array Value} {w : World} {a : Act} {op : Oper} {K : Out → Prop}

theorem twice_ups (outs : Outs) {o1 : Own} {σ : Sub} (hc : ∀ x c m, (x, c, m) ∈ outs → ∃ e, olook o1 c = some e) (s : St) :
    (∀ t, look (ups (twice (usOf outs o1 σ)) s).e t = V.sub (spurgeL (movedU (usOf outs o1 σ))) (look s.e t)) ∧
    (∀ id, olook (ups (twice (usOf outs o1 σ)) s).o id = olook (entsOn (usOf outs o1 σ) (subO (spurgeL (movedU (usOf outs o1 σ))) (oeraseL (idsU (usOf outs o1 σ)) s.o))) id) ∧
    ∀ id, memN (ups (twice (usOf outs o1 σ)) s).t id = (memN (idsU (usOf outs o1 σ)) id || memN s.t id) := by
  have hsid : spurgeL [] = sid := by simp [spurgeL, sid, memN]
  generalize usOf outs o1 σ = us
  match us with
  | [] =>
    refine ⟨fun t => ?_, fun id => ?_, fun id => ?_⟩
    · simp only [twice, ups, movedU, hsid, V.sub_id]
    · simp only [twice, ups, entsOn, movedU, idsU, oeraseL, hsid, olook_subO]
      cases olook s.o id with
      | none => rfl
      | some e => cases e <;> simp [Ent.sub, V.subl_id]
    · simp [twice, ups, idsU, memN]
  | [(x, m, e)] =>
    have hsp : ∀ l : List Nat, (∀ n, memN (movedU [(x, m, e), (x, m, e)]) n = memN (movedU [(x, m, e)]) n) := fun _ n => by
      cases m <;> simp [movedU, memN]
    have hs2 : spurgeL (movedU [(x, m, e), (x, m, e)]) = spurgeL (movedU [(x, m, e)]) := by
      simp only [spurgeL, hsp []]
    refine ⟨fun t => ?_, fun id => ?_, fun id => ?_⟩
    · simp only [twice, ups, upMany, look_subE, hs2]
    · simp only [twice, ups, upMany, entsOn, olook, idsU, oeraseL, hs2, olook_subO, olook_oerase]
      by_cases h : id = x
      · simp [h]
      · simp only [h, if_false]
        cases (eqN x id) <;> rfl
    · simp [twice, ups, upMany, idsU, memN_cat, memN]
  | u :: u' :: r =>
    refine ⟨fun t => ?_, fun id => ?_, fun id => ?_⟩
    · simp only [twice, ups, upMany, look_subE]
    · simp only [twice, ups, upMany]
    · simp only [twice, ups, upMany, memN_cat]

theorem call_ownC {C : (Ending → World → Prop) → Prop} (hC : ∀ {R R' : Ending → World → Prop}, C R → (∀ e w, R e w → R' e w) → C R') (hr : Rl P c z F β s tm w) {vs : List V} {us : List Value} (hlen : us.length = vs.length) (hus : ∀ (i : Nat) (u : Value) (x : V), us[i]? = some u → vs[i]? = some x → RA w F β s.o u x)
    {outs : Outs} {fz : List Nat} {args : List V} {oc o1 : Own} {r : V} (h : ∀ (F : Nat → Prop) (β : Bt), us.toArray.size = args.length → (∀ (i : Nat) (v : Value) (x : V), us.toArray[i]? = some v → args[i]? = some x → RA w F β oc v x) → OwnOk w F β oc → GlbOk c.G w F →
      (∀ b, F b → b < w.heap.size) → (∀ id, olook oc id = none → β id = none) → (∀ k o, z.pr k o → F k ∧ ∀ id, β id ≠ some k) →
      C (fun e w' => ∃ v r' o' F' β', e = .returned v ∧ (r' = r ∧ o' = o1) ∧ (∀ b, F b → F' b) ∧ (∀ b, b < w.heap.size → F' b → F b) ∧ (∀ b, F' b → b < w'.heap.size) ∧
        RA w' F' β' o' v r' ∧ OwnOk w' F' β' o' ∧ (∀ id, olook o' id = none → β' id = none) ∧ Keep (fun b => ∃ id ent, olook oc id = some ent ∧ β id = some b) w w' ∧
        (∀ id ent b, olook o' id = some ent → β' id = some b → w.heap.size ≤ b ∨ ∃ ent', olook oc id = some ent' ∧ β id = some b) ∧
        (∀ id ent0 ent, olook oc id = some ent0 → olook o' id = some ent → pinned ent0 = true → Same w β oc w' β' o' id id))) (hc : ownOk c outs fz (frz fz s) oc o1 = true)
    (hl : LePl oc (V.subl (srn (kap (insO outs))) (subFz fz s vs)) args) (hs : subN (oids (ocOf (insO outs) (frz fz s) (srn (kap (insO outs))))) (oids oc) = true) (ho : leO oc (ocOf (insO outs) (frz fz s) (srn (kap (insO outs)))) oc)
    (hk : V.wf r → K ⟨V.sub (srn (iot outs)) r, fz, twice (usOf outs o1 (srn (iot outs)))⟩) (next : Value → World → Prop)
    (hn : ∀ out F' β' val w', K out → Rl P c z F' β' (s.after out) tm w' → RA w' F' β' (s.after out).o val out.v → next val w') :
    C (fun e w'' => match e with
      | .returned v => next v w''
      | _ => False) := by
  simp only [ownOk, Bool.and_eq_true] at hc
  obtain ⟨⟨⟨⟨⟨hnX, hnC⟩, hco1⟩, ho1c⟩, hlow⟩, hmv⟩ := hc
  obtain ⟨F1, β1, h1, h2, h3⟩ := Rl.freezes fz hr (allLow_iff _ hlow)
  obtain ⟨k1, k2⟩ := h3 vs us hlen hus
  have haft : ∀ v us, s.after ⟨v, fz, us⟩ = ups us (frz fz s) := fun _ _ => rfl
  generalize frz fz s = s1 at *
  obtain ⟨hiX, hiC⟩ := insO_nodup hnX hnC
  have spec := movesOk_spec hmv
  have oc0 := fun cid e0 => ocOf_look (s := s1) (σ := srn (kap (insO outs))) (insO outs) hiC cid e0
  generalize hoc0 : ocOf (insO outs) s1 (srn (kap (insO outs))) = oz at *
  -- as the callee sees it
  let βc : Bt := fun cid => match iot (insO outs) cid with
    | some X => β1 X
    | none => none
  have hβc : ∀ x cid m, (x, cid, m) ∈ insO outs → βc cid = β1 x := fun x cid m hm => by simp only [βc, iot_of hiC hm]
  have sameIn : ∀ id e x, kap (insO outs) id = some x → olook s1.o id = some e → Same w β1 s1.o w βc oz id x := fun id e x hk he => by
    obtain ⟨m, hm⟩ := kap_mem hk
    have hz := (oc0 x (Ent.sub (srn (kap (insO outs))) e)).2 ⟨id, m, e, hm, he, rfl⟩
    refine ⟨hβc _ _ _ hm, fun cs h => ?_, fun fx t sz α f l h => ?_, fun α f l h => by rw [he] at h; cases h; exact ⟨_, _, _, hz⟩⟩
    · rw [he] at h; cases h; exact ⟨_, hz⟩
    · rw [he] at h; cases h; exact ⟨fx, α, f, l, hz, rfl, fun b cur hb hc => ⟨cur, hc, rfl⟩⟩
  have g1 : ∀ v x, RA w F1 β1 s1.o v x → RA w F1 βc oz v (V.sub (srn (kap (insO outs))) x) := fun v x hx => RA.ren (fun _ _ h => h) (fun id ent x hi he => sameIn id ent x hi he) hx
  have own0 : OwnOk w F1 βc oz := by
    refine ⟨fun cid e0 he => ?_, fun cid cid' b e0 e0' he he' hb hb' => ?_⟩
    · obtain ⟨x, m, e, q1, q2, rfl⟩ := (oc0 cid e0).1 he
      have hx := h1.own.ent x e q2
      cases e with
      | var cs =>
        obtain ⟨b, cv, t, u1, u2, u3, u4, u5, u6⟩ := hx
        refine ⟨b, cv, t, (hβc _ _ _ q1).trans u1, u2, u3, by simpa [V.subl_eq] using u4, u5, fun i v y hi hy => ?_⟩
        rw [V.subl_eq, List.getElem?_map, Option.map_eq_some_iff] at hy
        obtain ⟨y', hy', rfl⟩ := hy
        exact g1 _ _ (u6 i v y' hi hy')
      | arr fx t sz f l =>
        rcases hx with ⟨u1, u2⟩ | ⟨b, cur, u1, u2⟩
        · exact .inl ⟨(hβc _ _ _ q1).trans u1, u2⟩
        · exact .inr ⟨b, cur, (hβc _ _ _ q1).trans u1, u2⟩
      | map f l =>
        obtain ⟨b, es, clock, u1, u2⟩ := hx
        exact ⟨b, es, clock, (hβc _ _ _ q1).trans u1, u2⟩
    · obtain ⟨x, m, e, q1, q2, _⟩ := (oc0 cid e0).1 he
      obtain ⟨x', m', e', q3, q4, _⟩ := (oc0 cid' e0').1 he'
      rw [hβc _ _ _ q1] at hb
      rw [hβc _ _ _ q3] at hb'
      have := h1.own.inj x x' b e e' q2 q4 hb hb'
      subst this
      have r1 := kap_of hiX q1
      have r2 := kap_of hiX q3
      rw [r1] at r2; cases r2; rfl
  have hsub : ∀ id e, olook oz id = some e → ∃ e', olook oc id = some e' ∧ EntLe oc e e' := fun id e he => by
    have := subN_spec hs (oids_look.2 ⟨e, he⟩)
    obtain ⟨e', he'⟩ := oids_look.1 this
    obtain ⟨e1, e2, m1, m2, m3⟩ := leO_spec _ ho id e' he'
    rw [he] at m1; cases m1
    rw [he'] at m2; cases m2
    exact ⟨e', he', m3⟩
  have hnone : ∀ id, olook oz id = none → olook oc id = none := fun id hid => by
    cases hx : olook oc id with
    | none => rfl
    | some e => obtain ⟨e1, e2, m1, _⟩ := leO_spec _ ho id e hx; rw [hid] at m1; cases m1
  obtain ⟨own1, g2, sameZ⟩ := own_retell own0 hnone hsub
  have ocin : ∀ cid e0, olook oc cid = some e0 → ∃ x m e, (x, cid, m) ∈ insO outs ∧ olook s1.o x = some e ∧ KindEq e e0 := fun cid e0 he => by
    cases hz : olook oz cid with
    | none => rw [hnone cid hz] at he; cases he
    | some ez =>
      obtain ⟨e', m1, m2⟩ := hsub cid ez hz
      rw [he] at m1; cases m1
      obtain ⟨x, m, e, q1, q2, rfl⟩ := (oc0 cid ez).1 hz
      exact ⟨x, m, e, q1, q2, m2.kind.sub⟩
  have hcall := h F1 βc (by rw [List.size_toArray, hlen, ← hl.len, V.subl_eq, List.length_map, k1]) (fun i v x hi hx => by
    have hi' : us[i]? = some v := by simpa using hi
    obtain ⟨m1, m2⟩ := LePl.ra (cs := us.toArray) hl (w := w) (F := F1) (β := βc) (by rw [List.size_toArray, V.subl_eq, List.length_map, k1, hlen]) (fun j u y hj hy => by
      rw [V.subl_eq, List.getElem?_map, Option.map_eq_some_iff] at hy
      obtain ⟨y', hy', rfl⟩ := hy
      exact g2 _ _ (g1 _ _ (k2 j u y' (by simpa using hj) hy')))
    exact m2 i v x hi hx) own1 h1.glob h1.Flt (fun id hid => by
      simp only [βc]
      cases hx : iot (insO outs) id with
      | none => rfl
      | some X =>
        obtain ⟨m, hm⟩ := iot_mem hx
        obtain ⟨e, _, he, _⟩ := (spec X id m (insO_mem.1 hm).1).1 (insO_mem.1 hm).2
        obtain ⟨e', he', _⟩ := hsub id _ ((oc0 id _).2 ⟨X, m, e, hm, he, rfl⟩)
        rw [hid] at he'; cases he') (fun k o hp => ⟨(h1.prot k o hp).1, fun id => by
      simp only [βc]
      cases iot (insO outs) id with
      | none => simp
      | some X => exact (h1.prot k o hp).2.2 X⟩)
  refine hC hcall ?_
  rintro e w' ⟨v, r', o', F', β', rfl, ⟨rfl, rfl⟩, p1, p2, p3, p4, p5, p6, p7, p8, p9⟩
  have hcov : ∀ x c m, (x, c, m) ∈ outs → ∃ e, olook o' c = some e := fun x c m hm => oids_look.1 (subN_spec hco1 (outC_mem hm))
  obtain ⟨t1, t2, t3⟩ := twice_ups outs (σ := srn (iot outs)) hcov s1
  have hMv := movedU_usOf outs (σ := srn (iot outs)) hcov
  have hId := idsU_usOf outs (σ := srn (iot outs)) hcov
  obtain ⟨β'', hfin, hra⟩ := h1.called (w' := w') (F' := F') (oc := oc) (o' := o') (βc := βc) (β' := β') (κ := kap outs) (ι := iot outs) (M := movedU (usOf outs o' (srn (iot outs)))) (s' := ups (twice (usOf outs o' (srn (iot outs)))) s1)
    (fun cid e0 he => by
      obtain ⟨x, m, e, q1, q2, q3⟩ := ocin cid e0 he
      exact ⟨x, e, kap_of hnX (insO_mem.1 q1).1, hβc _ _ _ q1, q2, q3⟩)
    p1 p2 p3 p5 p6 p7 p8 p9
    (fun id cid => ⟨fun h => by obtain ⟨m, hm⟩ := kap_mem h; exact iot_of hnC hm, fun h => by obtain ⟨m, hm⟩ := iot_mem h; exact kap_of hnX hm⟩)
    (fun cid => ⟨fun ⟨id, h⟩ => by obtain ⟨m, hm⟩ := kap_mem h; exact hcov _ _ _ hm, fun h => by
      obtain ⟨x, m, hm⟩ := outC_of (subN_spec ho1c (oids_look.2 h))
      exact ⟨x, kap_of hnX hm⟩⟩)
    (fun id cid hk hm => by
      obtain ⟨m, hmem⟩ := kap_mem hk
      cases m with
      | true => rw [(hMv id).2 ⟨cid, hmem⟩] at hm; cases hm
      | false =>
        have hlt : cid < 20000 := by
          rcases Nat.lt_or_ge cid 20000 with h | h
          · exact h
          · have := (spec id cid false hmem).2.1 (by omega); cases this
        obtain ⟨e, e', he, he', hp⟩ := (spec id cid false hmem).1 hlt
        exact ⟨e', he', hp rfl⟩)
    (fun id hm => by obtain ⟨cid, hc⟩ := (hMv id).1 hm; exact ⟨cid, kap_of hnX hc⟩)
    (fun id ent0 hm h0 => by
      obtain ⟨cid, hc⟩ := (hMv id).1 hm
      rcases (spec id cid true hc).2.2 rfl with h | h
      · have := h1.low id ent0 h0; omega
      · cases hp : pinned ent0 with
        | false => rfl
        | true => rw [h1.pins id ent0 h0 hp] at h; cases h)
    t1
    (fun id => by
      rw [t2, entsOn_usOf outs hnX hcov]
      cases hk : kap outs id with
      | some cid => rfl
      | none =>
        simp only
        rw [olook_subO, olook_oeraseL, hId]
        have : memN (outX outs) id ≠ true := fun h => by
          have : ∀ l : Outs, memN (outX l) id = true → kap l id ≠ none := fun l => by
            induction l with
            | nil => intro h; cases h
            | cons q l ih =>
              obtain ⟨x, c, m⟩ := q
              intro h
              simp only [outX, memN, Bool.or_eq_true] at h
              simp only [kap]
              cases hb : (eqN x id) with
              | true => simp
              | false => rw [hb] at h; exact ih (h.resolve_left (by simp))
          exact this outs h hk
        rw [if_neg this])
    (fun id hm => by
      rw [t3, hId, Bool.or_eq_false_iff] at hm
      refine ⟨?_, hm.2⟩
      cases hk : kap outs id with
      | none => rfl
      | some cid => obtain ⟨m, hmem⟩ := kap_mem hk; rw [outX_mem hmem] at hm; cases hm.1)
  exact hn _ F' β'' v w' (hk p4.wf') (by rw [haft]; exact hfin) (by rw [haft]; exact hra _ _ p4)

theorem call_own (ha : a.tmps = tm) (hr : Rl P c z F β s tm w) {f : FuncId} {vs : List V} {us : List Value} (hlen : us.length = vs.length) (hus : ∀ (i : Nat) (u : Value) (x : V), us[i]? = some u → vs[i]? = some x → RA w F β s.o u x)
    {outs : Outs} {fz : List Nat} {args : List V} {oc o1 : Own} {r : V} (h : ACalls P c.G f args oc (fun x o' => x = r ∧ o' = o1)) (hc : ownOk c outs fz (frz fz s) oc o1 = true)
    (hl : LePl oc (V.subl (srn (kap (insO outs))) (subFz fz s vs)) args) (hs : subN (oids (ocOf (insO outs) (frz fz s) (srn (kap (insO outs))))) (oids oc) = true) (ho : leO oc (ocOf (insO outs) (frz fz s) (srn (kap (insO outs)))) oc)
    (hk : V.wf r → K ⟨V.sub (srn (iot outs)) r, fz, twice (usOf outs o1 (srn (iot outs)))⟩) (next : Act → World → Prop)
    (hn : ∀ out F' β' val w', K out → Rl P c z F' β' (s.after out) tm w' → RA w' F' β' (s.after out).o val out.v → next (a.put op.dst val) w') :
    Calls P f us.toArray w (fun e w'' => match e with
      | .returned v => next (a.put op.dst v) w''
      | _ => False) :=
  call_ownC (C := Calls P f us.toArray w) (fun h hm => h.mono hm) hr hlen hus (fun F β g1 g2 g3 g4 g5 g6 _ => h.2 w F β us.toArray g1 g2 g3 g4 g5 g6) hc hl hs ho hk (fun v w'' => next (a.put op.dst v) w'') hn

theorem step_call (ha : a.tmps = tm) (hr : Rl P c z F β s tm w) {im : List (Nat × Bool)} (him : ∀ t b, (t, b) ∈ im → tm.getD t undef = .bool b) {x : Operand} {args0 : List Operand} {ats : Array TypeId} {f : FuncId} {first cap : List V}
    (hop : op.op = .call { callee := .value x, args := ⟨args0⟩, argTypes := ats }) (hx : res s.e im (evalO c s.e x) = .fn f first cap)
    (hk : CallP P c f (first ++ args0.map (fun x => res s.e im (evalO c s.e x)) ++ cap) s (subFz (oslIdsl (first ++ args0.map (fun x => res s.e im (evalO c s.e x)) ++ cap) ++ (capIds s (first ++ args0.map (fun x => res s.e im (evalO c s.e x)) ++ cap) ++ capIn s (first ++ cap))) s (first ++ args0.map (fun x => res s.e im (evalO c s.e x)) ++ cap))
      (V.subl (sview s.o) (first ++ args0.map (fun x => res s.e im (evalO c s.e x)) ++ cap)) (oslIdsl (first ++ args0.map (fun x => res s.e im (evalO c s.e x)) ++ cap) ++ (capIds s (first ++ args0.map (fun x => res s.e im (evalO c s.e x)) ++ cap) ++ capIn s (first ++ cap))) K) : StepTo P c z s tm w a op K := by
  obtain ⟨fs, cs, e1, e2, e3⟩ := args_ra ha hr him (args := args0) hx
  generalize (first ++ args0.map (fun x => res s.e im (evalO c s.e x)) ++ cap) = vs at *
  generalize hids : oslIdsl vs ++ (capIds s vs ++ capIn s (first ++ cap)) = ids at *
  intro next Q hn
  cases hk with
  | data r h hl hd hrd hk =>
    obtain ⟨⟨fn, hf, hname, hb⟩, h⟩ := h
    unfold Oper.wp
    rw [run_call hop e1 hf hname hb, Oper.upon_enter, show Array.map a.eval ⟨args0⟩ = (args0.map a.eval).toArray by simp]
    obtain ⟨F1, β1, h1, h2, h3⟩ := Rl.freezes ids hr (allLow_iff _ hl)
    obtain ⟨k1, k2⟩ := h3 vs (fs ++ (args0.map a.eval).toArray ++ cs).toList (by simpa using e2) (fun i u x hi hx => e3 i u x (by rw [← Array.getElem?_toList]; exact hi) hx)
    refine (h w F1 (fun _ => none) (fs ++ (args0.map a.eval).toArray ++ cs) (by rw [k1]; exact e2) (fun i v x hi hx => ?_) ⟨fun _ _ h => by simp [olook] at h, fun _ _ _ _ _ h => by simp [olook] at h⟩ h1.glob h1.Flt (fun _ _ => rfl)).mono ?_
    · exact .d _ _ ((k2 i v x (by rw [Array.getElem?_toList]; exact hi) hx).data ((isDatal_iff _).1 hd x (List.mem_of_getElem? hx)))
    · rintro e w' ⟨v, r', o', F', β', rfl, rfl, g1, g2, g3, g4, g5, g6, g7, _, _⟩
      have hk7 : ∀ b, b < w.heap.size → w'.heap[b]? = w.heap[b]? := fun b hb => g7.block b hb (by rintro ⟨id, ent, h, _⟩; simp [olook] at h)
      obtain ⟨m1, m2, m3⟩ := h1.world hk7 g7.os g7.tape g7.output g7.size g1 g2 g3
      refine hn _ F' β1 v w' (hk (g4.data hrd).wf) m1 (.d _ _ (g4.data hrd))
  | lend r h hrd hk =>
    obtain ⟨⟨fn, hf, hname, hb⟩, h⟩ := h
    unfold Oper.wp
    rw [run_call hop e1 hf hname hb, Oper.upon_enter, show Array.map a.eval ⟨args0⟩ = (args0.map a.eval).toArray by simp]
    refine (h w (fun b => F b ∧ ∀ id ent, olook s.o id = some ent → β id ≠ some b) (fun _ => none) (fs ++ (args0.map a.eval).toArray ++ cs) (by rw [V.subl_eq]; simpa using e2) (fun i v x hi hx => ?_) ⟨fun _ _ h => by simp [olook] at h, fun _ _ _ _ _ h => by simp [olook] at h⟩
      ⟨fun gg cs hg => hd_of (fun _ _ _ => rfl) (fun _ _ h => h.1) (Nat.le_refl _) _ _ (hr.glob.ok gg cs hg)⟩ (fun b h => hr.Flt b h.1) (fun _ _ => rfl)).mono ?_
    · rw [V.subl_eq, List.getElem?_map, Option.map_eq_some_iff] at hx
      obtain ⟨y, hy, rfl⟩ := hx
      exact lent_ra hr (e3 i v y hi hy)
    · rintro e w' ⟨v, r', o', F', β', rfl, rfl, g1, g2, g3, g4, g5, g6, g7, _, _⟩
      have hk7 : ∀ b, b < w.heap.size → w'.heap[b]? = w.heap[b]? := fun b hb => g7.block b hb (by rintro ⟨id, ent, h, _⟩; simp [olook] at h)
      obtain ⟨m1, m2, m3⟩ := hr.world (F' := fun b => F b ∨ F' b) hk7 g7.os g7.tape g7.output g7.size (fun b h => .inl h) (fun b hb h => h.elim id fun h => (g2 b hb h).1) (fun b h => h.elim (fun h => Nat.lt_of_lt_of_le (hr.Flt b h) g7.size) (g3 b))
      have := fun w F => flat_rd (w' := w) (F' := F) g4 hrd
      exact hn _ (fun b => F b ∨ F' b) β v w' (hk (this w F).wf) m1 (.d _ _ (this _ _))
  | own outs fz args oc o1 r h hc hl hs ho hk =>
    have hh := h.1
    obtain ⟨fn, hf, hname, hb⟩ := hh
    unfold Oper.wp
    rw [run_call hop e1 hf hname hb, Oper.upon_enter, show Array.map a.eval ⟨args0⟩ = (args0.map a.eval).toArray by simp]
    have := call_own (op := op) (K := K) ha hr (us := (fs ++ (args0.map a.eval).toArray ++ cs).toList) (by simpa using e2) (fun i u x hi hx => e3 i u x (by rw [← Array.getElem?_toList]; exact hi) hx) h hc hl hs ho hk next hn
    rw [Array.toArray_toList] at this
    exact this.mono fun e w' he => by cases e <;> first | exact he | exact he.elim

end
end Go.Vg
/- The conditions suffice: parts of own lists, copying. -/
namespace Go.Vg
open Go

theorem bif_true {b : Bool} {p : Prop} (h : bif b then p else False) : b = true ∧ p := by
  cases b
  · exact h.elim
  · exact ⟨rfl, h⟩


section
variable {P : Program} {c : Ctx} {z : From} {F : Nat → Prop} {β : Bt} {s : St} {tm : Array Value} {w : World} {a : Act} {op : Oper} {K : Out → Prop}

/-- An element of a view, by its address. -/
theorem step_vwelem (ha : a.tmps = tm) (hr : Rl P c z F β s tm w) {im : List (Nat × Bool)} (him : ∀ t b, (t, b) ∈ im → tm.getD t undef = .bool b) {t el : TypeId} {x y : Operand} {ti : TI} {ie : IE} {q1 q2 : Nat} {q3 : List V} (hop : op.op = .indexAddr t x y)
    (ht : tlook c.T t = some ⟨.slice el, q1, q2, q3⟩) (hi : ieOf (res s.e im (evalO c s.e y)) = some ie) (hel : tlook c.T el = some ti) {id : Nat} {lo n : IE} (hx : res s.e im (evalO c s.e x) = .view id lo n) {fx : Bool} {e : TypeId} {α : Type} {f : α → V} {l : List α} (ho : olook s.o id = some (.arr fx e ti.sz f l))
    (h0 : 0 ≤ ie.den) (h1 : ie.den < n.den) {J : V → Prop} (hk : J (.eptr id (arI .add .i64 lo ie) 0)) : YieldTo P s w F β a op J := by
  have hxx := res_ra ha hr.toRel him x
  rw [hx] at hxx
  obtain ⟨k, hy, _⟩ := ieOf_ra (res_ra ha hr.toRel him y) hi
  obtain ⟨fx1, e1, sz1, α1, f1, l1, i, m, g1, hlo, hn, him', g2⟩ := RA.of_view hxx
  rw [ho] at g1
  simp only [Option.some.injEq, Ent.arr.injEq] at g1
  obtain ⟨rfl, rfl, rfl, rfl, hf, hl⟩ := g1
  have hf := eq_of_heq hf
  have hl := eq_of_heq hl
  subst hf; subst hl
  obtain ⟨j, hj⟩ : ∃ j : Nat, ie.den = j := ⟨ie.den.toNat, by omega⟩
  rcases g2 with ⟨rfl, _⟩ | ⟨b, cc, cur, hpos, m1, m2, m3, m4, m5, m6, m7⟩
  · omega
  · have hlt : j < m := by omega
    refine ⟨.pointer (some ⟨b, i * ti.sz + j * ti.sz, none⟩), _, fun w' => ?_, ?_, hk⟩
    · simp only [execOp, hop, Sem.run_bind, m2, hy, indexAt_slice (slice_ty hr.tab ht) hr.tab hel hj hlt, Result.andThen_ok, Sem.run_pure]
    · have hden : (arI .add .i64 lo ie).den = ((i + j : Nat) : Int) := by
        rw [arI_den]
        simp only [arD, hlo, hj]
        rw [wrap_id]
        · omega
        · rw [has_iff]; simp only [Vg.lo, Vg.hi]; unfold LIM at m5; omega
      have := RA.eptr (w := w) (F := F) (β := β) (o := s.o) id 0 b m1 fx e ti.sz (arI .add .i64 lo ie) (i + j) f l ho hden (by omega)
      rw [Nat.add_zero, Nat.add_mul] at this
      exact this

/-- A part of an own list, as a view. -/
theorem step_oview (ha : a.tmps = tm) (hr : Rl P c z F β s tm w) {im : List (Nat × Bool)} (him : ∀ t b, (t, b) ∈ im → tm.getD t undef = .bool b) {t el : TypeId} {x : Operand} {lo hi : Option Operand} {ti : TI} {q1 q2 : Nat} {q3 : List V} {l0 : IE} {h0 : Option IE}
    (ht : tlook c.T t = some ⟨.slice el, q1, q2, q3⟩) (hel : tlook c.T el = some ti)
    (hlo : (match lo with
        | some y => ieOf (res s.e im (evalO c s.e y))
        | none => some (.lit 0)) = some l0)
    (hhi : (match hi with
        | some y => (match ieOf (res s.e im (evalO c s.e y)) with
          | some e => some (some e)
          | none => none)
        | none => some none) = some h0) (hop : op.op = .slice t x lo hi none)
    {id : Nat} (hx : res s.e im (evalO c s.e x) = .osl id) {fx : Bool} {e : TypeId} {α : Type} {f : α → V} {l : List α} (ho : olook s.o id = some (.arr fx e ti.sz f l)) {i j : Nat} (hi1 : l0.den = (i : Int)) (hj1 : (h0.getD (.len l)).den = (j : Int)) (hij : i ≤ j) (hjl : j ≤ l.length) :
    ∃ (ad : Option Addr) (cc : Nat), a.eval x = .slice ad l.length cc ∧ (∀ w', (execOp a.eval op).run P w' = .ok (.value (.slice (if cc = i then ad else ad.map (·.add (i * ti.sz))) (j - i) (cc - i))) w') ∧
      ((l = [] ∧ ad = none ∧ cc = 0) ∨ ∃ b cur, β id = some b ∧ ad = some ⟨b, 0, none⟩ ∧ l.length ≤ cc ∧ cc ≤ maxLen ∧ l.length ≤ LIM ∧ w.heap[b]? = some (.cells cur e (0, 0)) ∧ cur.size = cc * ti.sz) := by
  have hxx := res_ra ha hr.toRel him x
  rw [hx] at hxx
  obtain ⟨fx1, e1, sz1, α1, f1, l1, g1, g2⟩ := RA.of_osl hxx
  rw [ho] at g1
  simp only [Option.some.injEq, Ent.arr.injEq] at g1
  obtain ⟨rfl, rfl, rfl, rfl, hf, hl⟩ := g1
  have hf := eq_of_heq hf
  have hl := eq_of_heq hl
  subst hf; subst hl
  have hlow : (lo.map a.eval = none ∧ i = 0) ∨ ∃ k, lo.map a.eval = some (.int k (i : Int)) := by
    cases lo with
    | none => simp only [Option.some.injEq] at hlo; subst hlo; simp only [IE.den] at hi1; exact .inl ⟨rfl, by omega⟩
    | some y =>
      simp only at hlo
      obtain ⟨k, hy, _⟩ := ieOf_ra (res_ra ha hr.toRel him y) hlo
      exact .inr ⟨k, by simp [hy, hi1]⟩
  have hhigh : (hi.map a.eval = none ∧ j = l.length) ∨ ∃ k, hi.map a.eval = some (.int k (j : Int)) := by
    cases hi with
    | none =>
      simp only [Option.some.injEq] at hhi; subst hhi
      simp only [Option.getD_none, IE.den] at hj1
      exact .inl ⟨rfl, by omega⟩
    | some y =>
      simp only at hhi
      split at hhi
      · rename_i e he
        simp only [Option.some.injEq] at hhi; subst hhi
        obtain ⟨k, hy, _⟩ := ieOf_ra (res_ra ha hr.toRel him y) he
        simp only [Option.getD_some] at hj1
        exact .inr ⟨k, by simp [hy, hj1]⟩
      · cases hhi
  rcases g2 with ⟨rfl, g2⟩ | ⟨b, cc, cur, m1, m2, m3, m4, m5, m6, m7⟩
  · have hrun := fun w' => sliceAt_run (P := P) (w := w') (ad := none) (len := 0) (cap := 0) (lo := lo.map a.eval) (hi := hi.map a.eval) (l := i) (h := j) (slice_ty hr.tab ht) hr.tab hel hlow (by simpa using hhigh) hij (by simpa using hjl) (Nat.le_refl _)
    refine ⟨none, 0, g2, fun w' => ?_, .inl ⟨rfl, rfl, rfl⟩⟩
    simp only [execOp, hop, Sem.run_bind, g2, hrun, Option.map_none, Result.andThen_ok, Sem.run_pure]
  · have hrun := fun w' => sliceAt_run (P := P) (w := w') (ad := some ⟨b, 0, none⟩) (len := l.length) (cap := cc) (lo := lo.map a.eval) (hi := hi.map a.eval) (l := i) (h := j) (slice_ty hr.tab ht) hr.tab hel hlow hhigh hij hjl m3
    refine ⟨some ⟨b, 0, none⟩, cc, m2, fun w' => ?_, .inr ⟨b, cur, m1, rfl, m3, m4, m5, m6, m7⟩⟩
    simp only [execOp, hop, Sem.run_bind, m2, hrun, Option.map_none, Result.andThen_ok, Sem.run_pure]

theorem step_subO (ha : a.tmps = tm) (hr : Rl P c z F β s tm w) {im : List (Nat × Bool)} (him : ∀ t b, (t, b) ∈ im → tm.getD t undef = .bool b) {t el : TypeId} {x : Operand} {lo hi : Option Operand} {ti : TI} {q1 q2 : Nat} {q3 : List V} {l0 : IE} {h0 : Option IE}
    (ht : tlook c.T t = some ⟨.slice el, q1, q2, q3⟩) (hel : tlook c.T el = some ti)
    (hlo : (match lo with
        | some y => ieOf (res s.e im (evalO c s.e y))
        | none => some (.lit 0)) = some l0)
    (hhi : (match hi with
        | some y => (match ieOf (res s.e im (evalO c s.e y)) with
          | some e => some (some e)
          | none => none)
        | none => some none) = some h0) (hop : op.op = .slice t x lo hi none)
    {id : Nat} (hx : res s.e im (evalO c s.e x) = .osl id) {fx : Bool} {e : TypeId} {α : Type} {f : α → V} {l : List α} (ho : olook s.o id = some (.arr fx e ti.sz f l))
    (hk : SubO l l0 (h0.getD (.len l)) (fun l' => bif (ltN id 10000) then K ⟨.sl ti.sz f l', [id], []⟩ else False) (fun lo n => K ⟨.view id lo n, [], []⟩) (fun l' => bif (ltN id 10000) || !(memN c.pin id) then K ⟨.osl id, [], [(id, true, .arr fx e ti.sz f l')]⟩ else False)) : StepTo P c z s tm w a op K := by
  cases hk with
  | freeze h =>
    have hlt : id < 10000 := by
      obtain ⟨_, _, _, _, _, _, hk⟩ := h
      have := (bif_true (hk _ rfl)).1
      simpa using this
    have h' : SubP l l0 (h0.getD (.len l)) (fun l' => K ⟨.sl ti.sz f l', [id], []⟩) := by
      obtain ⟨a, b, h1, h2, h3, h4, hk⟩ := h
      exact ⟨a, b, h1, h2, h3, h4, fun l' hl' => (bif_true (hk l' hl')).2⟩
    have hw := res_ra ha hr.toRel him x
    rw [hx] at hw
    obtain ⟨F1, β1, g1, g2, g3⟩ := hr.freeze (X := id) hlt
    have := g3 _ _ hw
    unfold fsub at this; rw [ho] at this
    simp only [V.sub, sfrz, eqN_self, cond_true] at this
    obtain ⟨v, y, m1, m2, m3⟩ := step_sub ha hr him ht hel hlo hhi hop (RA.of_elems this rfl) (J := fun y => K ⟨y, [id], []⟩) h'
    exact StepTo.of_run (m1 w) m3 (by exact g1) (.d _ _ m2)
  | view lo' n h1 h2 h0' h3 h4 hk =>
    obtain ⟨i, hi1⟩ : ∃ i : Nat, l0.den = i := ⟨l0.den.toNat, by omega⟩
    obtain ⟨j, hj1⟩ : ∃ j : Nat, (h0.getD (.len l)).den = j := ⟨(h0.getD (.len l)).den.toNat, by omega⟩
    obtain ⟨ad, cc, e1, e2, e3⟩ := step_oview ha hr him ht hel hlo hhi hop hx ho hi1 hj1 (by omega) (by omega)
    refine StepTo.of_run (e2 w) hk hr ?_
    by_cases hz : j - i = 0
    · rw [hz]
      exact .view0 id fx e ti.sz f l ho lo' n i (h1.trans hi1) (by rw [h2]; omega) (by omega) _ _
    · rcases e3 with ⟨rfl, _, _⟩ | ⟨b, cur, m1, rfl, m3, m4, m5, m6, m7⟩
      · simp at h4; omega
      · have hne : ¬ cc = i := by omega
        rw [if_neg hne, Option.map_some, Addr.add_at, Nat.zero_add]
        exact .view id b m1 fx e ti.sz f l cc ho m3 m4 m5 cur m6 m7 lo' n i (j - i) (h1.trans hi1) (by rw [h2]; omega) (by omega) (by omega)
  | take h0' m hm h4 hk =>
    have hk := hk _ rfl
    obtain ⟨hlow, hk⟩ := bif_true hk
    obtain ⟨ad, cc, e1, e2, e3⟩ := step_oview ha hr him ht hel hlo hhi hop hx ho (i := 0) (by rw [h0']; rfl) hm (by omega) h4
    have hX : id < 10000 ∨ ∀ ent, olook z.o id = some ent → pinned ent = false := by
      simp only [Bool.or_eq_true, Bool.not_eq_true'] at hlow
      rcases hlow with h | h
      · exact .inl (by simpa using h)
      · refine .inr fun ent he => ?_
        cases hp : pinned ent with
        | false => rfl
        | true => rw [hr.pins id ent he hp] at h; cases h
    have hent := hr.own.ent id _ ho
    have hR := hr.anew (w' := w) (F' := F) (X := id) (nb := β id) (ent := .arr fx e ti.sz f (l.take m)) hX (fun _ _ _ => rfl) rfl rfl ⟨rfl, .inr (Nat.le_refl _)⟩ (Nat.le_refl _) (fun _ h => h) (fun _ _ h => h) hr.Flt (fun b hb => .inr hb) (by
      rcases hent with ⟨k1, k2⟩ | ⟨b, cur, k1, k2, k3, k4, k5, k6⟩
      · exact .inl ⟨by simp [k1], by simp [k2]⟩
      · refine .inr ⟨b, cur, by simp [k1], k2, k3, Nat.le_trans (Nat.mul_le_mul_right _ (by simp; omega)) k4, k5, fun i p hp => ?_⟩
        rw [List.getElem?_take] at hp
        split at hp
        · exact k6 i p hp
        · cases hp)
    have hol : olook (up1 s (id, true, .arr fx e ti.sz f (l.take m))).o id = some (.arr fx e ti.sz f (l.take m)) := by simp [up1, olook, Ent.sub]
    refine StepTo.of_run (e2 w) hk hR ?_
    rcases e3 with ⟨rfl, rfl, rfl⟩ | ⟨b, cur, m1, rfl, m3, m4, m5, m6, m7⟩
    · have : m = 0 := by simpa using h4
      subst this
      exact .osl0 id fx e ti.sz f (by rw [List.take_nil] at hol; exact hol)
    · have hl : (l.take m).length = m := by simp; omega
      have : (if cc = 0 then some (⟨b, 0, none⟩ : Addr) else (some ⟨b, 0, none⟩ : Option Addr).map (·.add (0 * ti.sz))) = some ⟨b, 0, none⟩ := by
        split
        · rfl
        · rw [Option.map_some, Addr.add_at, Nat.zero_mul]
      rw [this, Nat.sub_zero, Nat.sub_zero]
      have := RA.osl (w := w) (F := F) (β := fun x => if x = id then β id else β x) (o := (up1 s (id, true, .arr fx e ti.sz f (l.take m))).o) id b (by simp [m1]) fx e ti.sz f (l.take m) cc hol (by omega) m4 (by omega) cur m6 m7
      rw [hl] at this
      exact this

theorem vel_src {o : Own} (ho : OwnOk w F β o) {v : Value} {x : V} {sz : Nat} {es : List V} (h : RA w F β o v x) (hx : velems o (strL x) = some (sz, es)) :
    (∀ w', (Builtin.lenOf v).run P w' = .ok es.length w') ∧ ∀ k w', (Builtin.firstCells k 0 v).run P w' = .ok #[] w' := by
  have slice : velems o x = some (sz, es) → (∀ w', (Builtin.lenOf v).run P w' = .ok es.length w') ∧ ∀ k w', (Builtin.firstCells k 0 v).run P w' = .ok #[] w' := by
    intro hx
    obtain ⟨ad, cc, rfl, _⟩ := vel_cells ho h hx
    refine ⟨fun w' => by simp [Builtin.lenOf], fun k w' => ?_⟩
    cases ad with
    | none => simp [Builtin.firstCells]
    | some q => simpa [Builtin.firstCells] using run_loadCells_list (P := P) w' q [] (by simp)
  cases x with
  | str e =>
    obtain ⟨rfl, hl⟩ := RA.of_str h
    simp only [strL, velems, V.elems, Option.some.injEq, Prod.mk.injEq] at hx
    obtain ⟨rfl, rfl⟩ := hx
    refine ⟨fun w' => by simp [Builtin.lenOf, ByteArray.size, bytesI], fun k w' => by simp [Builtin.firstCells]⟩
  | _ => exact slice hx
/-- Cells are copied into an own list. -/
theorem step_copy (ha : a.tmps = tm) (hr : Rl P c z F β s tm w) {im : List (Nat × Bool)} (him : ∀ t b, (t, b) ∈ im → tm.getD t undef = .bool b) {t u el : TypeId} {x y : Operand} {ti : TI} {q1 q2 : Nat} {q3 : List V}
    (hop : op.op = .call ⟨.builtin .copy, ⟨[x, y]⟩, ⟨[t, u]⟩⟩) (hk0 : (∃ e', P.underlying u = some (.slice e')) ∨ P.underlying u = some .string) (ht : tlook c.T t = some ⟨.slice el, q1, q2, q3⟩) (hel : tlook c.T el = some ti) (hpos : 0 < ti.sz)
    (hk : CopyP ti.sz (res s.e im (evalO c s.e x)) (strL (res s.e im (evalO c s.e y))) s.o (fun _ => K ⟨.int .i64 (.lit 0), [], []⟩) (fun id fx e _ f l q => K ⟨.int .i64 (.nat q), [], [(id, false, .arr fx e ti.sz f l)]⟩)) : StepTo P c z s tm w a op K := by
  have hx := res_ra ha hr.toRel him x
  have hy := res_ra ha hr.toRel him y
  have hu := slice_ty hr.tab ht
  cases hk with
  | none sz1 sz2 es es' h1 h2 h hk =>
    obtain ⟨ad, cc, e1, _⟩ := vel_cells hr.own hx h2
    obtain ⟨e2, hfc⟩ := vel_src (P := P) hr.own hy h1
    have e3 : Nat.min es.length es'.length = 0 := by rcases h with rfl | rfl <;> simp
    refine StepTo.of_run (val := .int .i64 0) (w' := w) ?_ hk hr (ra_int (e := .lit 0) rfl (by rw [has_iff]; simp [lo, hi]))
    have hrun : (Builtin.copy_ #[t, u] op.type #[.slice ad es'.length cc, a.eval y]).run P w = .ok (.int .i64 0) w := by
      cases ad with
      | none => simp [Builtin.copy_, run_underlying hu, e2, e3, sizeOf_run hr.tab hel, hfc, goInt]
      | some q => simp [Builtin.copy_, run_underlying hu, e2, e3, sizeOf_run hr.tab hel, hfc, storeCells, goInt]
    simp only [execOp, hop, resolve, invoke, builtin, Sem.run_bind, Sem.run_pure, Result.andThen_ok, List.map_toArray, List.map_cons, List.map_nil, e1, hrun]
  | some f l xs id fx e i m q ho hd hxs hq hqpos hk =>
    have hk := hk _ rfl
    obtain ⟨news, hS, e2, n4⟩ := news_src (P := P) hr.own hy hxs hpos
    have n1 := hS.newsLen
    have n3 := hS.one
    have hxne : xs ≠ [] := fun h => by subst h; simp at hq; omega
    have hmpos : 0 < m := by omega
    -- where it goes
    have hdst : ∃ b cur dc, β id = some b ∧ a.eval x = .slice (some ⟨b, i * ti.sz, none⟩) m dc ∧ i + m ≤ l.length ∧ w.heap[b]? = some (.cells cur e (0, 0)) := by
      rcases hd with ⟨hd, rfl, rfl⟩ | ⟨lo', n', hd, hlo, hn⟩
      · rw [hd] at hx
        obtain ⟨fx1, e1', sz1, α1, f1, l1, g1, g2⟩ := RA.of_osl hx
        rw [ho] at g1
        simp only [Option.some.injEq, Ent.arr.injEq] at g1
        obtain ⟨rfl, rfl, rfl, rfl, hf, hl⟩ := g1
        have hl := eq_of_heq hl
        subst hl
        rcases g2 with ⟨rfl, _⟩ | ⟨b, c', cur, k1, k2, k3, k4, k5, k6, k7⟩
        · simp at hmpos
        · exact ⟨b, cur, c', k1, by rw [k2, Nat.zero_mul], by omega, k6⟩
      · rw [hd] at hx
        obtain ⟨fx1, e1', sz1, α1, f1, l1, i', m', g1, hlo', hn', him', g2⟩ := RA.of_view hx
        rw [ho] at g1
        simp only [Option.some.injEq, Ent.arr.injEq] at g1
        obtain ⟨rfl, rfl, rfl, rfl, hf, hl⟩ := g1
        have hl := eq_of_heq hl
        subst hl
        have hi' : i' = i := by omega
        have hm' : m' = m := by omega
        subst hi'; subst hm'
        rcases g2 with ⟨h0, _⟩ | ⟨b, c', cur, _, k1, k2, k3, k4, k5, k6, k7⟩
        · omega
        · exact ⟨b, cur, _, k1, k2, him', k6⟩
    obtain ⟨b, cur, dc, hb, e4, him', hcur⟩ := hdst
    rcases hr.own.ent id _ ho with ⟨k1, _⟩ | ⟨b', cur', m1, m2, m3, m4, m5, m6⟩
    · rw [k1] at hb; cases hb
    rw [hb] at m1; cases m1
    rw [hcur] at m3; cases m3
    generalize hcs : news.take (q * ti.sz) = cs
    have hqm : q ≤ m := by omega
    have hqx : q ≤ xs.length := by omega
    have hcl : cs.length = q * ti.sz := by
      rw [← hcs, List.length_take, n1]
      exact Nat.min_eq_left (Nat.mul_le_mul_right _ hqx)
    have hcone : ∀ u, u ∈ cs → u.oneCell' = true := fun u hu => n3 u (by rw [← hcs] at hu; exact List.mem_of_mem_take hu)
    have hle : (i + q) * ti.sz ≤ cur.size := Nat.le_trans (Nat.mul_le_mul_right _ (by omega)) m4
    rw [Nat.add_mul] at hle
    have hld := hS.cells w rfl q hqx
    rw [hcs] at hld
    have hst := run_storeCells_at P b (i * ti.sz) e cs 0 cur w hcur (by omega) hcone
    simp only [Nat.add_zero] at hst
    have hmin : Nat.min xs.length m = q := hq.symm
    have hrun : (Builtin.copy_ #[t, u] op.type #[.slice (some ⟨b, i * ti.sz, none⟩) m dc, a.eval y]).run P w = .ok (.int .i64 q) (w.setRow b (cur.toList.take (i * ti.sz) ++ cs ++ cur.toList.drop (i * ti.sz + cs.length)).toArray) := by
      simp [Builtin.copy_, run_underlying hu, hS.len, hmin, sizeOf_run hr.tab hel, hld, hst, goInt]
    have hlen : i * ti.sz + cs.length ≤ cur.toList.length := by rw [hcl]; simpa using hle
    have hql : (q : Int) = (IE.nat q).den := rfl
    have hlenl : (l.take i ++ (xs.take q ++ l.drop (i + q))).length = l.length := by simp; omega
    refine StepTo.of_run (val := .int .i64 q) (w' := w.setRow b (cur.toList.take (i * ti.sz) ++ cs ++ cur.toList.drop (i * ti.sz + cs.length)).toArray) ?_ hk
      (hr.write (w' := w.setRow b _) ho hb (fun b' _ hne => setRow_other w b b' _ hne) rfl rfl ⟨rfl, .inr (Nat.le_refl _)⟩ (by simp)
        (.inr (.inl ⟨_, _, _, _, _, _, _, _, _, rfl, rfl, hlenl, fun cur' hc => ⟨_, setRow_heap w b cur _ e (0, 0) hcur, by rw [hcur] at hc; cases hc; rw [List.size_toArray, seg_size _ _ _ hlen]; simp⟩⟩)) (fun _ hd' => ?_))
      (ra_int rfl (has_len (by omega)))
    · simp only [execOp, hop, resolve, invoke, builtin, Sem.run_bind, Sem.run_pure, Result.andThen_ok, List.map_toArray, List.map_cons, List.map_nil, e4, hrun]
    · refine .inr ⟨b, _, hb, m2, setRow_heap w b cur _ e (0, 0) hcur, ?_, seg_one m5 hcone, fun j p hp => ?_⟩
      · rw [hlenl, List.size_toArray, seg_size _ _ _ hlen]; simpa using m4
      · have hcase : (j < i ∧ l[j]? = some p) ∨ (i ≤ j ∧ j < i + q ∧ xs[j - i]? = some p) ∨ (i + q ≤ j ∧ l[j]? = some p) := by
          rw [List.getElem?_append] at hp
          have h1 : (l.take i).length = i := by simp; omega
          rw [h1] at hp
          split at hp
          · rename_i hj
            rw [List.getElem?_take, if_pos hj] at hp
            exact .inl ⟨hj, hp⟩
          · rename_i hj
            rw [List.getElem?_append] at hp
            have h2 : (xs.take q).length = q := by simp; omega
            rw [h2] at hp
            split at hp
            · rename_i hj2
              rw [List.getElem?_take, if_pos hj2] at hp
              exact .inr (.inl ⟨by omega, by omega, hp⟩)
            · rename_i hj2
              rw [List.getElem?_drop, show i + q + (j - i - q) = j by omega] at hp
              exact .inr (.inr ⟨by omega, hp⟩)
        have keep : ∀ p, (j < i ∨ i + q ≤ j) → l[j]? = some p → (cells (f p)).length = ti.sz ∧ ∀ (k : Nat) (y : V), (cells (f p))[k]? = some y → ∃ cv, (cur.toList.take (i * ti.sz) ++ cs ++ cur.toList.drop (i * ti.sz + cs.length)).toArray[j * ti.sz + k]? = some cv ∧ RD (w.setRow b (cur.toList.take (i * ti.sz) ++ cs ++ cur.toList.drop (i * ti.sz + cs.length)).toArray) F cv y := fun p hj hp => by
          obtain ⟨r1, r2⟩ := m6 j p hp
          refine ⟨r1, fun k yy hk' => ?_⟩
          obtain ⟨cv, s1, s2⟩ := r2 k yy hk'
          have hks : k < ti.sz := by rw [← r1]; exact (List.getElem?_eq_some_iff.1 hk').1
          refine ⟨cv, ?_, hd' _ _ s2⟩
          rw [List.getElem?_toArray, seg_get _ _ _ _ hlen, hcl]
          rcases hj with hj | hj
          · have : (j + 1) * ti.sz ≤ i * ti.sz := Nat.mul_le_mul_right _ hj
            rw [Nat.add_mul, Nat.one_mul] at this
            rw [if_pos (by omega)]; simpa using s1
          · have : (i + q) * ti.sz ≤ j * ti.sz := Nat.mul_le_mul_right _ hj
            rw [Nat.add_mul] at this
            rw [if_neg (by omega), if_neg (by omega)]; simpa using s1
        rcases hcase with ⟨hj, hp⟩ | ⟨hj1, hj2, hp⟩ | ⟨hj, hp⟩
        · exact keep p (.inl hj) hp
        · obtain ⟨r1, r2⟩ := n4 (j - i) p hp
          refine ⟨r1, fun k yy hk' => ?_⟩
          obtain ⟨cv, s1, s2⟩ := r2 k yy hk'
          have hks : k < ti.sz := by rw [← r1]; exact (List.getElem?_eq_some_iff.1 hk').1
          refine ⟨cv, ?_, hd' _ _ s2⟩
          have h1 : i * ti.sz ≤ j * ti.sz := Nat.mul_le_mul_right _ hj1
          have h2 : (j - i) * ti.sz = j * ti.sz - i * ti.sz := Nat.sub_mul _ _ _
          have h3 : (j - i + 1) * ti.sz ≤ q * ti.sz := Nat.mul_le_mul_right _ (by omega)
          rw [Nat.add_mul, Nat.one_mul] at h3
          rw [List.getElem?_toArray, seg_get _ _ _ _ hlen, hcl, if_neg (by omega), if_pos (by omega), ← hcs, List.getElem?_take, if_pos (by omega), show j * ti.sz + k - i * ti.sz = (j - i) * ti.sz + k by omega]
          exact s1
        · exact keep p (.inr hj) hp

end
end Go.Vg
/- Own lists are cleared. -/
namespace Go.Vg
open Go
section
variable {P : Program} {c : Ctx} {z : From} {F : Nat → Prop} {β : Bt} {s : St} {tm : Array Value} {w : World} {a : Act} {op : Oper} {K : Out → Prop}
theorem step_clear (ha : a.tmps = tm) (hr : Rl P c z F β s tm w) {im : List (Nat × Bool)} (him : ∀ t b, (t, b) ∈ im → tm.getD t undef = .bool b) {t el : TypeId} {x : Operand} {ti : TI} {q1 q2 : Nat} {q3 : List V}
    (hop : op.op = .call ⟨.builtin .clear, ⟨[x]⟩, ⟨[t]⟩⟩) (ht : tlook c.T t = some ⟨.slice el, q1, q2, q3⟩) (hel : tlook c.T el = some ti) (hpos : 0 < ti.sz)
    (hk : ClearP ti.sz ti.zero (res s.e im (evalO c s.e x)) s.o (fun _ => K ⟨.tup [], [], []⟩) (fun id fx e _ f l => K ⟨.tup [], [], [(id, false, .arr fx e ti.sz f l)]⟩)) : StepTo P c z s tm w a op K := by
  have hx := res_ra ha hr.toRel him x
  have hu := slice_ty hr.tab ht
  have htup : ∀ {w : World} {F : Nat → Prop} {β : Bt} {o : Own}, RA w F β o (.tuple #[]) (.tup []) := .d _ _ (.tup #[] [] rfl (fun i c x h => by simp at h))
  obtain ⟨info, zv, zc1, zc2, zc3, zc4⟩ := zero_ra hr hel
  cases hk with
  | none sz' h hk =>
    obtain ⟨ad, cc, e1, _⟩ := vel_cells hr.own hx h
    refine StepTo.of_run (val := .tuple #[]) (w' := w) ?_ hk hr htup
    have hrun : (Builtin.clear_ #[t] op.type #[.slice ad ([] : List V).length cc]).run P w = .ok (.tuple #[]) w := by
      cases ad <;> simp [Builtin.clear_, run_underlying hu]
    simp only [execOp, hop, resolve, invoke, builtin, Sem.run_bind, Sem.run_pure, Result.andThen_ok, List.map_toArray, List.map_cons, List.map_nil, e1, hrun]
  | some f l id fx e i m zz ho hd hmpos hz hk =>
    have hk := hk _ rfl
    -- where it goes
    have hdst : ∃ b cur dc, β id = some b ∧ a.eval x = .slice (some ⟨b, i * ti.sz, none⟩) m dc ∧ i + m ≤ l.length ∧ w.heap[b]? = some (.cells cur e (0, 0)) := by
      rcases hd with ⟨hd, rfl, rfl⟩ | ⟨lo', n', hd, hlo, hn⟩
      · rw [hd] at hx
        obtain ⟨fx1, e1', sz1, α1, f1, l1, g1, g2⟩ := RA.of_osl hx
        rw [ho] at g1
        simp only [Option.some.injEq, Ent.arr.injEq] at g1
        obtain ⟨rfl, rfl, rfl, rfl, hf, hl⟩ := g1
        have hl := eq_of_heq hl
        subst hl
        rcases g2 with ⟨rfl, _⟩ | ⟨b, c', cur, k1, k2, k3, k4, k5, k6, k7⟩
        · simp at hmpos
        · exact ⟨b, cur, c', k1, by rw [k2, Nat.zero_mul], by omega, k6⟩
      · rw [hd] at hx
        obtain ⟨fx1, e1', sz1, α1, f1, l1, i', m', g1, hlo', hn', him', g2⟩ := RA.of_view hx
        rw [ho] at g1
        simp only [Option.some.injEq, Ent.arr.injEq] at g1
        obtain ⟨rfl, rfl, rfl, rfl, hf, hl⟩ := g1
        have hl := eq_of_heq hl
        subst hl
        have hi' : i' = i := by omega
        have hm' : m' = m := by omega
        subst hi'; subst hm'
        rcases g2 with ⟨h0, _⟩ | ⟨b, c', cur, _, k1, k2, k3, k4, k5, k6, k7⟩
        · omega
        · exact ⟨b, cur, _, k1, k2, him', k6⟩
    obtain ⟨b, cur, dc, hb, e4, him', hcur⟩ := hdst
    rcases hr.own.ent id _ ho with ⟨k1, _⟩ | ⟨b', cur', m1, m2, m3, m4, m5, m6⟩
    · rw [k1] at hb; cases hb
    rw [hb] at m1; cases m1
    rw [hcur] at m3; cases m3
    obtain ⟨q, hqq⟩ : ∃ q, q = m := ⟨_, rfl⟩
    subst hqq
    obtain ⟨info', zv', desc, t1, t2, t3, t4, t5, t6, t7, t8, t9, t10⟩ := hr.tab.ok el ti hel
    have hzs : ti.zero.length = ti.sz := by rw [← t7]; simpa using t8
    generalize hcs : (Builtin.zeroCells zv'.cells q).toList = cs
    have hcl : cs.length = q * ti.sz := by rw [← hcs]; simp [size_zeroCells, t8]
    have hcone : ∀ u, u ∈ cs → u.oneCell' = true := fun u hu => zeroCells_one t9 q u (by rw [← hcs] at hu; simpa using hu)
    have hcget : ∀ (j k : Nat), j < q → k < ti.sz → cs[j * ti.sz + k]? = zv'.cells[k]? := fun j k hj hk => by
      have hlt : j * ti.sz + k < q * ti.sz := by
        have : (j + 1) * ti.sz ≤ q * ti.sz := Nat.mul_le_mul_right _ hj
        rw [Nat.add_mul, Nat.one_mul] at this
        omega
      have hmod : (j * ti.sz + k) % ti.sz = k := by rw [Nat.add_comm, Nat.add_mul_mod_self_right]; exact Nat.mod_eq_of_lt hk
      have hkk : k < zv'.cells.size := by rw [t8]; exact hk
      rw [← hcs]
      simp only [Builtin.zeroCells, t8, Array.getElem?_toList, Array.getElem?_map, Array.getElem?_range, if_pos hlt, Option.map_some, hmod]
      rw [getElem!_pos zv'.cells k hkk, Array.getElem?_eq_getElem hkk]
    have hle : (i + q) * ti.sz ≤ cur.size := Nat.le_trans (Nat.mul_le_mul_right _ (by omega)) m4
    rw [Nat.add_mul] at hle
    have hst := run_storeCells_at P b (i * ti.sz) e cs 0 cur w hcur (by omega) hcone
    simp only [Nat.add_zero] at hst
    have hrun : (Builtin.clear_ #[t] op.type #[.slice (some ⟨b, i * ti.sz, none⟩) q dc]).run P w = .ok (.tuple #[]) (w.setRow b (cur.toList.take (i * ti.sz) ++ cs ++ cur.toList.drop (i * ti.sz + cs.length)).toArray) := by
      obtain ⟨q', rfl⟩ : ∃ q', q = q' + 1 := ⟨q - 1, by omega⟩
      have hzv : (zeroValue el).run P w = .ok zv' w := by simp [zeroValue, typeInfo, t1, t6]
      rw [← hcs] at hst ⊢
      simp [Builtin.clear_, run_underlying hu, hzv, hst]
    have hlen : i * ti.sz + cs.length ≤ cur.toList.length := by rw [hcl]; simpa using hle
    have hlenl : (l.take i ++ (List.replicate q zz ++ l.drop (i + q))).length = l.length := by simp; omega
    refine StepTo.of_run (val := .tuple #[]) (w' := w.setRow b (cur.toList.take (i * ti.sz) ++ cs ++ cur.toList.drop (i * ti.sz + cs.length)).toArray) ?_ hk
      (hr.write (w' := w.setRow b _) ho hb (fun b' _ hne => setRow_other w b b' _ hne) rfl rfl ⟨rfl, .inr (Nat.le_refl _)⟩ (by simp)
        (.inr (.inl ⟨_, _, _, _, _, _, _, _, _, rfl, rfl, hlenl, fun cur' hc => ⟨_, setRow_heap w b cur _ e (0, 0) hcur, by rw [hcur] at hc; cases hc; rw [List.size_toArray, seg_size _ _ _ hlen]; simp⟩⟩)) (fun _ hd' => ?_))
      htup
    · simp only [execOp, hop, resolve, invoke, builtin, Sem.run_bind, Sem.run_pure, Result.andThen_ok, List.map_toArray, List.map_cons, List.map_nil, e4, hrun]
    · refine .inr ⟨b, _, hb, m2, setRow_heap w b cur _ e (0, 0) hcur, ?_, seg_one m5 hcone, fun j p hp => ?_⟩
      · rw [hlenl, List.size_toArray, seg_size _ _ _ hlen]; simpa using m4
      · have hcase : (j < i ∧ l[j]? = some p) ∨ (i ≤ j ∧ j < i + q ∧ p = zz) ∨ (i + q ≤ j ∧ l[j]? = some p) := by
          rw [List.getElem?_append] at hp
          have h1 : (l.take i).length = i := by simp; omega
          rw [h1] at hp
          split at hp
          · rename_i hj
            rw [List.getElem?_take, if_pos hj] at hp
            exact .inl ⟨hj, hp⟩
          · rename_i hj
            rw [List.getElem?_append] at hp
            have h2 : (List.replicate q zz).length = q := by simp
            rw [h2] at hp
            split at hp
            · rename_i hj2
              rw [List.getElem?_replicate, if_pos hj2] at hp
              exact .inr (.inl ⟨by omega, by omega, (Option.some.inj hp).symm⟩)
            · rename_i hj2
              rw [List.getElem?_drop, show i + q + (j - i - q) = j by omega] at hp
              exact .inr (.inr ⟨by omega, hp⟩)
        have keep : ∀ p, (j < i ∨ i + q ≤ j) → l[j]? = some p → (cells (f p)).length = ti.sz ∧ ∀ (k : Nat) (y : V), (cells (f p))[k]? = some y → ∃ cv, (cur.toList.take (i * ti.sz) ++ cs ++ cur.toList.drop (i * ti.sz + cs.length)).toArray[j * ti.sz + k]? = some cv ∧ RD (w.setRow b (cur.toList.take (i * ti.sz) ++ cs ++ cur.toList.drop (i * ti.sz + cs.length)).toArray) F cv y := fun p hj hp => by
          obtain ⟨r1, r2⟩ := m6 j p hp
          refine ⟨r1, fun k yy hk' => ?_⟩
          obtain ⟨cv, s1, s2⟩ := r2 k yy hk'
          have hks : k < ti.sz := by rw [← r1]; exact (List.getElem?_eq_some_iff.1 hk').1
          refine ⟨cv, ?_, hd' _ _ s2⟩
          rw [List.getElem?_toArray, seg_get _ _ _ _ hlen, hcl]
          rcases hj with hj | hj
          · have : (j + 1) * ti.sz ≤ i * ti.sz := Nat.mul_le_mul_right _ hj
            rw [Nat.add_mul, Nat.one_mul] at this
            rw [if_pos (by omega)]; simpa using s1
          · have : (i + q) * ti.sz ≤ j * ti.sz := Nat.mul_le_mul_right _ hj
            rw [Nat.add_mul] at this
            rw [if_neg (by omega), if_neg (by omega)]; simpa using s1
        rcases hcase with ⟨hj, hp⟩ | ⟨hj1, hj2, hp⟩ | ⟨hj, hp⟩
        · exact keep p (.inl hj) hp
        · rw [hp]
          have hzl : (cells (f zz)).length = ti.sz := by rw [← hz.1]; exact hzs
          refine ⟨hzl, fun k yy hk' => ?_⟩
          have hks : k < ti.sz := by rw [← hzl]; exact (List.getElem?_eq_some_iff.1 hk').1
          have h1 : i * ti.sz ≤ j * ti.sz := Nat.mul_le_mul_right _ hj1
          have h2 : (j - i) * ti.sz = j * ti.sz - i * ti.sz := Nat.sub_mul _ _ _
          have h3 : (j - i + 1) * ti.sz ≤ q * ti.sz := Nat.mul_le_mul_right _ (by omega)
          rw [Nat.add_mul, Nat.one_mul] at h3
          have hkk : k < zv'.cells.size := by rw [t8]; exact hks
          refine ⟨zv'.cells[k], ?_, ?_⟩
          · rw [List.getElem?_toArray, seg_get _ _ _ _ hlen, hcl, if_neg (by omega), if_pos (by omega), show j * ti.sz + k - i * ti.sz = (j - i) * ti.sz + k by omega, hcget _ _ (by omega) hks, Array.getElem?_eq_getElem hkk]
          · obtain ⟨x0, hx0, hce⟩ := hz.get hk'
            refine hd' _ _ (hce _ _ _ ?_)
            rw [← t7, List.getElem?_map, Option.map_eq_some_iff] at hx0
            obtain ⟨v0, hv0, rfl⟩ := hx0
            have : v0 = zv'.cells[k] := by
              have : zv'.cells[k]? = some v0 := by simpa using hv0
              rw [Array.getElem?_eq_getElem hkk] at this
              exact (Option.some.inj this).symm
            subst this
            exact constV_rd _ _ _
        · exact keep p (.inr hj) hp

end
end Go.Vg
/- Maps with whole numbers as keys: made, looked into, turned. -/
namespace Go.Vg
open Go
open Go.ChangeMaps (setBlock heap_setBlock_same heap_setBlock_other)

section
variable {P : Program} {c : Ctx} {z : From} {F : Nat → Prop} {β : Bt} {s : St} {tm : Array Value} {w : World} {a : Act} {op : Oper} {K : Out → Prop}

/-- A variable that nobody turns. -/
theorem step_boxd (ha : a.tmps = tm) (hr : Rl P c z F β s tm w) {im : List (Nat × Bool)} (him : ∀ t b, (t, b) ∈ im → tm.getD t undef = .bool b) {t : TypeId} {x : Operand} {cs : List V} (hop : op.op = .box t x)
    (hx : cellsX (res s.e im (evalO c s.e x)) = some cs) (hdat : isDatal cs = true) (hk : K ⟨.rptr cs, [], []⟩) : StepTo P c z s tm w a op K := by
  obtain ⟨h1, h2, h3⟩ := cellsX_ra (res_ra ha hr.toRel him x) hx
  obtain ⟨hr', hd, g⟩ := hr.world (w' := { w with heap := w.heap.push (.cells (a.eval x).cells t) }) (F' := F) (fun b hb => heap_push w _ b hb) rfl rfl ⟨rfl, .inr (Nat.le_refl _)⟩ (by simp) (fun _ h => h) (fun _ _ h => h) (fun b h => by have := hr.Flt b h; simp; omega)
  refine StepTo.of_run (val := .pointer (some ⟨w.heap.size, 0, none⟩)) (w' := { w with heap := w.heap.push (.cells (a.eval x).cells t) }) ?_ hk hr' (.d _ _ ?_)
  · simp [execOp, hop, Instr.box, newVar, newRow]
  · have get : ∀ (j : Nat) (y : V), cs[j]? = some y → ∃ v, (a.eval x).cells[j]? = some v := fun j y hj => by
      have hlt : j < (a.eval x).cells.size := by rw [h1]; exact (List.getElem?_eq_some_iff.1 hj).1
      exact ⟨_, Array.getElem?_eq_getElem hlt⟩
    refine .rptr ⟨w.heap.size, 0, none⟩ cs rfl (fun h => absurd (hr.Flt _ h) (Nat.lt_irrefl _)) (by simp) (fun j => ((a.eval x).cells[j]?).getD undef) (fun j y hj => ?_) (fun j y hj => ?_) (fun j y hj => ?_)
    · obtain ⟨v, hv⟩ := get j y hj
      simp only [hv, Option.getD_some]
      exact h2 v (Array.mem_of_getElem? hv)
    · obtain ⟨v, hv⟩ := get j y hj
      simp [World.cell?, hv]
    · obtain ⟨v, hv⟩ := get j y hj
      simp only [hv, Option.getD_some]
      exact hd _ _ ((h3 j v y hv hj).data ((isDatal_iff _).1 hdat y (List.mem_of_getElem? hj)))

theorem map_ty {T : Tab} (hT : TabOk P T) {t k e : TypeId} {q1 q2 : Nat} {q3 : List V} (ht : tlook T t = some ⟨.map k e, q1, q2, q3⟩) : P.underlying t = some (.map k e) := by
  obtain ⟨i1, z1, d1, k1, k2, k3, k4⟩ := hT.ok _ _ ht
  cases d1 <;> simp only [TD.of, reduceCtorEq, TD.map.injEq] at k3
  obtain ⟨rfl, rfl⟩ := k3
  exact k2
theorem int_ty' {T : Tab} (hT : TabOk P T) {t : TypeId} {k : IntKind} {q1 q2 : Nat} {q3 : List V} (ht : tlook T t = some ⟨.int k, q1, q2, q3⟩) : P.underlying t = some (.int k) := by
  obtain ⟨i1, z1, d1, k1, k2, k3, k4⟩ := hT.ok _ _ ht
  cases d1 <;> simp only [TD.of, reduceCtorEq, TD.int.injEq] at k3
  rw [k2, k3]
/-- A type's zero value. -/
theorem zero_run {T : Tab} (hT : TabOk P T) {t : TypeId} {ti : TI} (ht : tlook T t = some ti) {x : V} (hx : loadX ti ti.zero = some x) (w : World) : ∃ zv, (zeroValue t).run P w = .ok zv w ∧ ∀ w' F, RD w' F zv x := by
  obtain ⟨info, zv, desc, h1, h2, h3, h4, h5, h6, h7, h8, h9, h10, h11⟩ := hT.ok t ti ht
  refine ⟨zv, by simp [zeroValue, typeInfo, h1, h6], fun w' F => ?_⟩
  unfold loadX at hx
  cases hz : ti.d.isAgg with
  | true =>
    rw [hz] at h11
    cases zv <;> simp only [isAggV, reduceCtorEq] at h11
    rename_i cs
    simp only [hz, cond_true] at hx
    obtain ⟨_, rfl⟩ := bif_some hx
    have : ti.zero.take ti.sz = cs.toList.map constV := by
      rw [← h7, ← h8, List.take_of_length_le (by simp)]; rfl
    rw [this]
    refine .agg _ _ (by simp) h9 fun i cc y hi hy => ?_
    rw [List.getElem?_map, Option.map_eq_some_iff] at hy
    obtain ⟨c', hc', rfl⟩ := hy
    have : cs.toList[i]? = some cc := by simpa using hi
    rw [this] at hc'; cases hc'
    exact constV_rd w' F cc
  | false =>
    rw [hz] at h11
    have hc : zv.cells = #[zv] := by cases zv <;> simp only [isAggV, reduceCtorEq] at h11 <;> rfl
    simp only [hz, cond_false] at hx
    rw [hc] at h7
    rw [← h7] at hx
    simp at hx
    rw [← hx]
    exact constV_rd w' F zv

theorem findNow_spec {α : Type} (q : IntKind) (n : Int) : ∀ (l : List (Int × α)) (es : List MapEntry) (m : Nat), es.length = l.length → (∀ (i : Nat) p, l[i]? = some p → ∃ en, es[i]? = some en ∧ en.key = .int .i64 p.1) →
    (mfind l n = none ∧ Instr.findNow (.int q) (.int .i64 n) es m = some none ∧ ∀ p', mput l n p' = l ++ [(n, p')]) ∨
    ∃ j p en, mfind l n = some p ∧ l[j]? = some (n, p) ∧ es[j]? = some en ∧ Instr.findNow (.int q) (.int .i64 n) es m = some (some (m + j, en.val)) ∧ ∀ p', mput l n p' = l.set j (n, p')
  | [], [], m, _, _ => .inl ⟨rfl, rfl, fun _ => rfl⟩
  | [], _ :: _, _, h, _ => by simp at h
  | _ :: _, [], _, h, _ => by simp at h
  | (k, p) :: r, e :: es, m, h, hk => by
    obtain ⟨en, h1, h2⟩ := hk 0 (k, p) rfl
    simp at h1; subst h1
    simp only [Instr.findNow, h2, Instr.sameNow, if_true, mfind, mput]
    by_cases e1 : k = n
    · subst e1
      refine .inr ⟨0, p, e, by simp, rfl, rfl, by simp, fun p' => by simp⟩
    · have : (n == k) = false := by simpa using fun h => e1 h.symm
      simp only [this, if_neg e1]
      rcases findNow_spec q n r es (m + 1) (by simpa using h) (fun i p hp => hk (i + 1) p hp) with ⟨g1, g2, g3⟩ | ⟨j, p1, en, g1, g2, g3, g4, g5⟩
      · exact .inl ⟨g1, g2, fun p' => by rw [g3]; rfl⟩
      · exact .inr ⟨j + 1, p1, en, g1, g2, g3, by rw [g4]; congr 3; omega, fun p' => by rw [g5]; rfl⟩

theorem mput_len {α : Type} (l : List (Int × α)) (n : Int) (p : α) : (mput l n p).length ≤ l.length + 1 := by
  induction l with
  | nil => simp [mput]
  | cons a r ih =>
    obtain ⟨k, q⟩ := a
    simp only [mput]
    split
    · simp
    · simpa using ih

theorem checkKey_int {k : TypeId} (hk : P.underlying k = some (.int .i64)) (b : Bool) (n : Int) (w : World) : (Instr.checkKey b 10000 k (.int .i64 n)).run P w = .ok () w := by
  unfold Instr.checkKey
  simp [run_underlying hk]
theorem findKey_int {k : TypeId} (hk : P.underlying k = some (.int .i64)) {v : Value} {es : List MapEntry} {r : Option (Nat × Value)} (h : Instr.findNow (.int .i64) v es 0 = some r) (w : World) : (Instr.findKey k v es).run P w = .ok r w := by
  unfold Instr.findKey
  simp [run_underlying hk, h]

theorem step_makeMap (hr : Rl P c z F β s tm w) {t : TypeId} {d : Nat} (hop : op.op = .makeMap t none) (hd : d < 10000) {α : Type} (f : α → V) (hk : K ⟨.mp d, [], [(d, true, .map f [])]⟩) : StepTo P c z s tm w a op K := by
  let w' : World := { w with heap := w.heap.push (.map #[] 0) }
  let F' : Nat → Prop := fun b => F b ∨ b = w.heap.size
  have hlt : ∀ b, F b → b < w.heap.size := hr.Flt
  have hk' : ∀ b, b < w.heap.size → w'.heap[b]? = w.heap[b]? := heap_push w _
  have hF2 : ∀ b, b < w.heap.size → F' b → F b := fun b hb h => h.resolve_right (by omega)
  have hsz : w.heap.size ≤ w'.heap.size := by simp [w']
  have hR := hr.anew (w' := w') (F' := F') (X := d) (nb := some w.heap.size) (ent := .map f []) (.inl hd) (fun b hb _ => hk' b hb) rfl rfl ⟨rfl, .inr (Nat.le_refl _)⟩ hsz (fun b h => .inl h) hF2
    (fun b h => by rcases h with h | h; (· have := hlt b h; simp [w']; omega); (· simp [w', h])) (fun b hb => by cases hb; exact .inl (Nat.le_refl _))
    ⟨w.heap.size, #[], 0, by simp, .inr rfl, by simp [w'], rfl, by simp, fun i p hp => by simp at hp⟩
  refine StepTo.of_run (val := .map (some w.heap.size)) (w' := w') ?_ hk hR (.mp d w.heap.size (by simp) f [] (by simp [St.after, ups, frz, up1, olook, Ent.sub]))
  simp [execOp, hop, Instr.makeMap, newObj, Sem.run, w']

theorem step_lookup (ha : a.tmps = tm) (hr : Rl P c z F β s tm w) {im : List (Nat × Bool)} (him : ∀ t b, (t, b) ∈ im → tm.getD t undef = .bool b) {t k e : TypeId} {x i : Operand} {ok : Bool} {q1 q2 : Nat} {q3 : List V} {u1 u2 : Nat} {u3 : List V} {ti : TI} {id : Nat} {ie : IE}
    {α : Type} {f : α → V} {l : List (Int × α)} {zz : V} (hop : op.op = .lookup t x i ok) (h1 : tlook c.T t = some ⟨.map k e, q1, q2, q3⟩) (h2 : tlook c.T k = some ⟨.int .i64, u1, u2, u3⟩) (h3 : tlook c.T e = some ti)
    (h4 : res s.e im (evalO c s.e x) = .mp id) (h5 : res s.e im (evalO c s.e i) = .int .i64 ie) (h6 : olook s.o id = some (.map f l)) (h7 : loadX ti ti.zero = some zz)
    (hk : LookP f l ie zz (fun p b => K ⟨lookV ok (f p) b, [], []⟩)) : StepTo P c z s tm w a op K := by
  obtain ⟨p0, hz, hk⟩ := hk
  have hx := res_ra ha hr.toRel him x
  rw [h4] at hx
  obtain ⟨b, α', f', l', hb, g2, ex⟩ := RA.of_mp hx
  have hxi := res_ra ha hr.toRel him i
  rw [h5] at hxi
  obtain ⟨ei, hi⟩ := RA.of_int hxi
  obtain ⟨b', es, clock, m1, m2, m3, m4, m4', m5⟩ := hr.own.ent id _ h6
  rw [hb] at m1; cases m1
  obtain ⟨zv, hzr, hzd⟩ := zero_run hr.tab h3 h7 w
  have tk := int_ty' hr.tab h2
  have tt := map_ty hr.tab h1
  have hlen : es.toList.length = l.length := by simpa using m4
  have key : ∃ v p, (mfind l ie.den).getD p0 = p ∧ RD w F v (f p) ∧ (Instr.lookup t (.map (some b)) (.int .i64 ie.den) ok).run P w = .ok (if ok then .tuple #[v, .bool (mfind l ie.den).isSome] else v) w := by
    rcases findNow_spec .i64 ie.den l es.toList 0 hlen (fun i p hp => let ⟨en, k1, k2, _⟩ := m5 i p hp; ⟨en, by simpa using k1, k2⟩) with ⟨g1, g2, _⟩ | ⟨j, p, en, g1, g2, g3, g4, _⟩
    · refine ⟨zv, p0, by rw [g1]; rfl, hz _ _ _ (hzd _ _), ?_⟩
      simp [Instr.lookup, run_underlying tt, MapKept.run_getObj_map m3, checkKey_int tk, findKey_int tk g2, hzr, g1]
    · obtain ⟨en', k1, k2, k3⟩ := m5 j _ g2
      have k1' : es.toList[j]? = some en' := by simpa using k1
      rw [g3] at k1'; cases k1'
      refine ⟨en.val, p, by rw [g1]; rfl, k3, ?_⟩
      simp [Instr.lookup, run_underlying tt, MapKept.run_getObj_map m3, checkKey_int tk, findKey_int tk g4, g1]
  obtain ⟨v, p, e1, e2, e3⟩ := key
  refine StepTo.of_run (w' := w) (val := if ok then .tuple #[v, .bool (mfind l ie.den).isSome] else v) ?_ (hk p _ e1.symm rfl e2.wf) hr ?_
  · simp [execOp, hop, ex, ei, e3]
  · cases ok with
    | false => exact .d _ _ e2
    | true =>
      refine .tup _ _ rfl fun i cc y hi hy => ?_
      match i with
      | 0 => simp at hi hy; subst hi; subst hy; exact .d _ _ e2
      | 1 => simp at hi hy; subst hi; subst hy; exact .d _ _ (.bool _ _ rfl)
      | i + 2 => simp at hi

theorem step_mapUpdate (ha : a.tmps = tm) (hr : Rl P c z F β s tm w) {im : List (Nat × Bool)} (him : ∀ t b, (t, b) ∈ im → tm.getD t undef = .bool b) {t k e : TypeId} {x i v : Operand} {q1 q2 : Nat} {q3 : List V} {u1 u2 : Nat} {u3 : List V} {id : Nat} {ie : IE}
    {α : Type} {f : α → V} {l : List (Int × α)} (hop : op.op = .mapUpdate t x i v) (h1 : tlook c.T t = some ⟨.map k e, q1, q2, q3⟩) (h2 : tlook c.T k = some ⟨.int .i64, u1, u2, u3⟩)
    (h4 : res s.e im (evalO c s.e x) = .mp id) (h5 : res s.e im (evalO c s.e i) = .int .i64 ie) (h6 : olook s.o id = some (.map f l)) (h7 : isData (res s.e im (evalO c s.e v)) = true)
    (hk : MputP f l ie (res s.e im (evalO c s.e v)) (fun l' => K ⟨.junk, [], [(id, false, .map f l')]⟩)) : StepTo P c z s tm w a op K := by
  obtain ⟨p, hv, hll, hk⟩ := hk
  have hk := hk _ rfl
  have hx := res_ra ha hr.toRel him x
  rw [h4] at hx
  obtain ⟨b, α', f', l', hb, g2, ex⟩ := RA.of_mp hx
  have hxi := res_ra ha hr.toRel him i
  rw [h5] at hxi
  obtain ⟨ei, hi⟩ := RA.of_int hxi
  have hval := hv _ _ _ ((res_ra ha hr.toRel him v).data h7)
  obtain ⟨b', es, clock, m1, m2, m3, m4, m4', m5⟩ := hr.own.ent id _ h6
  rw [hb] at m1; cases m1
  have tk := int_ty' hr.tab h2
  have tt := map_ty hr.tab h1
  have hlen : es.toList.length = l.length := by simpa using m4
  have key : ∃ es' clock', (Instr.mapUpdate t (.map (some b)) (.int .i64 ie.den) (a.eval v)).run P w = .ok () (setBlock w b (.map es' clock')) ∧ es'.size = (mput l ie.den p).length ∧
      ∀ (i : Nat) p', (mput l ie.den p)[i]? = some p' → ∃ en, es'[i]? = some en ∧ en.key = .int .i64 p'.1 ∧ RD w F en.val (f p'.2) := by
    rcases findNow_spec .i64 ie.den l es.toList 0 hlen (fun i p hp => let ⟨en, k1, k2, _⟩ := m5 i p hp; ⟨en, by simpa using k1, k2⟩) with ⟨g1, g2, g3⟩ | ⟨j, p1, en, g1, g2, g3, g4, g5⟩
    · refine ⟨es.push ⟨.int .i64 ie.den, a.eval v, clock⟩, clock + 1, ?_, by rw [g3]; simp [m4], fun i p' hp' => ?_⟩
      · simp [Instr.mapUpdate, run_underlying tt, MapKept.run_getObj_map m3, checkKey_int tk, findKey_int tk g2, MapKept.run_setObj_map _ m3, setBlock]
      · rw [g3, List.getElem?_append] at hp'
        rw [Array.getElem?_push]
        split at hp'
        · rename_i hlt
          rw [if_neg (by omega)]
          exact m5 i p' hp'
        · rename_i hlt
          have hi0 : i - l.length = 0 := by
            have := (List.getElem?_eq_some_iff.1 hp').1
            simp at this; omega
          rw [hi0] at hp'
          simp at hp'; subst hp'
          have : i = es.size := by omega
          rw [if_pos this]
          exact ⟨_, rfl, rfl, hval⟩
    · obtain ⟨en', k1, k2, k3⟩ := m5 j _ g2
      have k1' : es.toList[j]? = some en' := by simpa using k1
      rw [g3] at k1'; cases k1'
      have k1 : es[j]? = some en := by simpa using g3
      refine ⟨es.modify j fun e => { e with key := .int .i64 ie.den, val := a.eval v }, clock, ?_, by rw [g5]; simp [m4], fun i p' hp' => ?_⟩
      · have hsb : Instr.sameBits 10000 (.int .i64 ie.den) (.int .i64 ie.den) = true := by simp [Instr.sameBits]
        have : (0 + j) = j := by omega
        rw [this] at g4
        simp [Instr.mapUpdate, run_underlying tt, MapKept.run_getObj_map m3, checkKey_int tk, findKey_int tk g4, k1, k2, Instr.keyThatStays, hsb, MapKept.run_setObj_map _ m3, setBlock]
      · rw [g5, List.getElem?_set] at hp'
        rw [Array.getElem?_modify]
        split at hp'
        · rename_i hji
          subst hji
          rw [if_pos rfl]
          split at hp'
          · cases hp'
            exact ⟨{ en with key := .int .i64 ie.den, val := a.eval v }, by rw [k1]; rfl, rfl, hval⟩
          · cases hp'
        · rename_i hji
          rw [if_neg hji]
          exact m5 i p' hp'
  obtain ⟨es', clock', e1, e2, e3⟩ := key
  refine StepTo.of_skip (w' := setBlock w b (.map es' clock')) ?_ hk
    (hr.write (w' := setBlock w b _) h6 hb (fun b' _ hne => heap_setBlock_other m3 _ hne) rfl rfl ⟨rfl, .inr (Nat.le_refl _)⟩ (by simp [setBlock]) (.inr (.inr ⟨_, _, _, _, _, _, rfl, rfl⟩)) (fun _ hd' => ?_)) rfl
  · simp [execOp, hop, ex, ei, e1]
  · exact ⟨b, es', clock', hb, m2, heap_setBlock_same m3 _, e2, Nat.le_trans (mput_len _ _ _) hll, fun i p' hp' => let ⟨en, n1, n2, n3⟩ := e3 i p' hp'; ⟨en, n1, n2, hd' _ _ n3⟩⟩

theorem step_maplen (ha : a.tmps = tm) (hr : Rl P c z F β s tm w) {im : List (Nat × Bool)} (him : ∀ t b, (t, b) ∈ im → tm.getD t undef = .bool b) {t k e : TypeId} {x : Operand} {q1 q2 : Nat} {q3 : List V} {id : Nat}
    {α : Type} {f : α → V} {l : List (Int × α)} (hop : op.op = .call ⟨.builtin .len, ⟨[x]⟩, ⟨[t]⟩⟩) (h1 : tlook c.T t = some ⟨.map k e, q1, q2, q3⟩) (h4 : res s.e im (evalO c s.e x) = .mp id) (h6 : olook s.o id = some (.map f l))
    (hk : K ⟨.int .i64 (.len l), [], []⟩) : StepTo P c z s tm w a op K := by
  have hx := res_ra ha hr.toRel him x
  rw [h4] at hx
  obtain ⟨b, α', f', l', hb, g2, ex⟩ := RA.of_mp hx
  obtain ⟨b', es, clock, m1, m2, m3, m4, m4', m5⟩ := hr.own.ent id _ h6
  rw [hb] at m1; cases m1
  have tt := map_ty hr.tab h1
  refine StepTo.of_run (w' := w) (val := .int .i64 l.length) ?_ hk hr (ra_int rfl (has_len m4'))
  simp [execOp, hop, resolve, invoke, builtin, ex, Builtin.len_, run_underlying tt, MapKept.run_getObj_map m3, goInt, m4]
end
end Go.Vg
