/- The conditions suffice: calls. -/
import Derived.Test.YtnapnedfhimikaaDoorVgO
import Derived.Conc.Own4
set_option maxRecDepth 4000
set_option linter.all false
set_option linter.unusedVariables false
set_option linter.unusedSimpArgs false
namespace Go.Vg
open Go

section
variable {P : Program} {c : Ctx} {z : From} {F : Nat → Prop} {β : Bt} {s : St} {tm : Array Value} {w : World} {a : Act} {op : Oper} {K : Out → Prop}

theorem run_call {o : Oper} {x : Operand} {args : Array Operand} {ats : Array TypeId} {f : FuncId} {fs cs : Array Value} (hop : o.op = .call { callee := .value x, args, argTypes := ats }) (hx : a.eval x = .func (.func f) fs cs)
    {fn : Func} (hf : P.funcs[f]? = some fn) (hname : (fn.name == "runtime.NumGoroutine") = false) (hb : fn.body.isNone = false) : (execOp a.eval o).run P w = .ok (.enter f (fs ++ args.map a.eval ++ cs)) w := by
  have h1 : ¬ fn.name = "runtime.NumGoroutine" := by simpa using hname
  have h2 : ¬ fn.body = none := by cases hx : fn.body <;> simp_all
  unfold execOp
  simp [hop, resolve, Deferred.ofValue, invoke, callFunc, hf, h1, h2, hx]

/-- The arguments of a call, one by one. -/
theorem args_ra (ha : a.tmps = tm) (hr : Rl P c z F β s tm w) {im : List (Nat × Bool)} (him : ∀ t b, (t, b) ∈ im → tm.getD t undef = .bool b) {x : Operand} {args : List Operand} {f : FuncId} {first cap : List V} (hx : res s.e im (evalO c s.e x) = .fn f first cap) :
    ∃ fs cs, a.eval x = .func (.func f) fs cs ∧ (fs ++ (args.map a.eval).toArray ++ cs).size = (first ++ args.map (fun x => res s.e im (evalO c s.e x)) ++ cap).length ∧
      ∀ (i : Nat) (v : Value) (y : V), (fs ++ (args.map a.eval).toArray ++ cs)[i]? = some v → (first ++ args.map (fun x => res s.e im (evalO c s.e x)) ++ cap)[i]? = some y → RA w F β s.o v y := by
  have h := res_ra ha hr.toRel him x
  rw [hx] at h
  obtain ⟨fs, cs, e, h1, h2, h3, h4⟩ := RA.of_fn h
  refine ⟨fs, cs, e, by simp [h1, h2], fun i v y hi hy => ?_⟩
  simp only [Array.getElem?_append, List.getElem?_append, Array.size_append, List.size_toArray, List.length_append, List.length_map, h1] at hi hy
  split at hi
  · rename_i q1
    rw [if_pos q1] at hy
    split at hi
    · rename_i q2
      rw [if_pos q2] at hy
      exact h3 i v y hi hy
    · rename_i q2
      rw [if_neg q2, List.getElem?_map, Option.map_eq_some_iff] at hy
      rw [List.getElem?_toArray, List.getElem?_map, Option.map_eq_some_iff] at hi
      obtain ⟨o1, m1, rfl⟩ := hi
      obtain ⟨o2, m2, rfl⟩ := hy
      rw [m1] at m2; cases m2
      exact res_ra ha hr.toRel him o1
  · rename_i q1
    rw [if_neg q1] at hy
    exact h4 _ v y hi hy

theorem flat_mem : ∀ (l : List V), flatl l = true → ∀ x, x ∈ l → flat x = true
  | [], _, x, hx => by cases hx
  | a :: r, h, x, hx => by
    simp only [flatl, Bool.and_eq_true] at h
    rcases List.mem_cons.1 hx with e | hx
    · rw [e]; exact h.1
    · exact flat_mem r h.2 x hx

theorem flat_rd {w w' : World} {F F' : Nat → Prop} {β : Bt} {o : Own} {v : Value} {x : V} (h : RA w F β o v x) (hx : flat x = true) : RD w' F' v x := by
  have hd : ∀ v x, RD w F v x → flat x = true → RD w' F' v x := by
    intro v x h
    induction h with
    | int k e n h hk => intro _; exact .int k e n h hk
    | bool e b h => intro _; exact .bool e b h
    | str e s h hl => intro _; exact .str e s h hl
    | nilsl x sz hx => intro hx'; cases x <;> simp [V.elems] at hx <;> simp [flat] at hx'
    | slice x sz es hx => intro hx'; cases x <;> simp [V.elems] at hx <;> simp [flat] at hx'
    | agg cs xs hl hone _ ih => intro hx; simp only [flat] at hx; exact .agg _ _ hl hone fun i c y hi hy => ih i c y hi hy (flat_mem _ hx y (List.mem_of_getElem? hy))
    | tup cs xs hl _ ih => intro hx; simp only [flat] at hx; exact .tup _ _ hl fun i c y hi hy => ih i c y hi hy (flat_mem _ hx y (List.mem_of_getElem? hy))
    | nilptr => intro _; exact .nilptr
    | nilfn => intro _; exact .nilfn
    | fn f => intro hx; simp [flat] at hx
    | rptr => intro hx; simp [flat] at hx
    | junk v => intro _; exact .junk _
  induction h with
  | d v x h => exact hd v x h hx
  | osl => simp [flat] at hx
  | osl0 => simp [flat] at hx
  | view => simp [flat] at hx
  | view0 => simp [flat] at hx
  | ptr => simp [flat] at hx
  | eptr => simp [flat] at hx
  | fn => simp [flat] at hx
  | agg cs xs hl hone _ ih => simp only [flat] at hx; exact .agg _ _ hl hone fun i c y hi hy => ih i c y hi hy (flat_mem _ hx y (List.mem_of_getElem? hy))
  | tup cs xs hl _ ih => simp only [flat] at hx; exact .tup _ _ hl fun i c y hi hy => ih i c y hi hy (flat_mem _ hx y (List.mem_of_getElem? hy))
  | junk v => exact .junk v

theorem RA.wf {v : Value} {x : V} (h : RA w F β s.o v x) (hx : isData x = true) : V.wf x := (h.data hx).wf

/-- What is lent is seen as data. -/
theorem lent_ra (hr : Rl P c z F β s tm w) {v : Value} {x : V} (h : RA w F β s.o v x) :
    RA w (fun b => F b ∧ ∀ id ent, olook s.o id = some ent → β id ≠ some b) (fun _ => none) [] v (V.sub (sview s.o) x) := by
  have hd : ∀ v x, RD w F v x → RD w (fun b => F b ∧ ∀ id ent, olook s.o id = some ent → β id ≠ some b) v x := hd_of (fun _ _ _ => rfl) (fun _ _ h => h.1) (Nat.le_refl _)
  refine RA.sub hd (fun v id hv => ?_) (fun v id off hv => .junk _) (fun v id i off hv => .junk _) (fun v id id' lo n he hv => by
    simp only [sview] at he
    split at he <;> cases he) h
  obtain ⟨fx1, e1, sz, α, f, l, he, h2⟩ := RA.of_osl hv
  simp only [sview, he]
  refine .d _ _ ?_
  rcases h2 with ⟨rfl, rfl⟩ | ⟨b, cc, cur, hb, rfl, k2, k3, k4, k5, k6⟩
  · exact .nilsl _ sz (by simp [V.elems])
  · rcases hr.own.ent id _ he with ⟨h, _⟩ | ⟨b', cur', m1, m2, m3, m4, m5, m6⟩
    · rw [h] at hb; cases hb
    · rw [hb] at m1; cases m1
      rw [k5] at m3; cases m3
      have hget : ∀ (i : Nat) (e : V), (l.map f)[i]? = some e → ∃ p, l[i]? = some p ∧ e = f p := fun i e h => by
        rw [List.getElem?_map, Option.map_eq_some_iff] at h
        obtain ⟨p, h1, h2⟩ := h
        exact ⟨p, h1, h2.symm⟩
      have hlen : l.length = (l.map f).length := by simp
      rw [hlen]
      refine .slice _ sz (l.map f) (by simp [V.elems]) (by simp) ⟨b, 0, none⟩ cc (by simpa using k2) (by simpa using k4) (fun _ => rfl) (fun _ h => h.2 id _ he hb) (fun _ => blk_lt k5) (fun i e h => ?_)
        (fun i j => (cur[i * sz + j]?).getD undef) (fun i e h j y hy => ?_) (fun i e h j y hy => ?_) (fun i e h j y hy => ?_)
      · obtain ⟨p, h1, rfl⟩ := hget i e h
        exact (m6 i p h1).1
      · obtain ⟨p, h1, rfl⟩ := hget i e h
        obtain ⟨cv, n1, n2⟩ := (m6 i p h1).2 j y hy
        simp only [n1, Option.getD_some]
        exact m5 cv (Array.mem_of_getElem? n1)
      · obtain ⟨p, h1, rfl⟩ := hget i e h
        obtain ⟨cv, n1, n2⟩ := (m6 i p h1).2 j y hy
        simp [World.cell?, k5, n1]
      · obtain ⟨p, h1, rfl⟩ := hget i e h
        obtain ⟨cv, n1, n2⟩ := (m6 i p h1).2 j y hy
        simp only [n1, Option.getD_some]
        exact hd _ _ n2

end
end Go.Vg
