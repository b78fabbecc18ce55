/- The conditions suffice: parts of own lists, copying. -/
import Derived.Test.YtnapnedfhimikaaDoorVgPc
import Derived.Laws.CopyRow
set_option maxRecDepth 4000
set_option linter.all false
set_option linter.unusedVariables false
set_option linter.unusedSimpArgs false
namespace Go.Vg
open Go

theorem bif_true {b : Bool} {p : Prop} (h : bif b then p else False) : b = true ∧ p := by
  cases b
  · exact h.elim
  · exact ⟨rfl, h⟩


section
variable {P : Program} {c : Ctx} {z : From} {F : Nat → Prop} {β : Bt} {s : St} {tm : Array Value} {w : World} {a : Act} {op : Oper} {K : Out → Prop}

/-- An element of a view, by its address. -/
theorem step_vwelem (ha : a.tmps = tm) (hr : Rl P c z F β s tm w) {im : List (Nat × Bool)} (him : ∀ t b, (t, b) ∈ im → tm.getD t undef = .bool b) {t el : TypeId} {x y : Operand} {ti : TI} {ie : IE} {q1 q2 : Nat} {q3 : List V} (hop : op.op = .indexAddr t x y)
    (ht : tlook c.T t = some ⟨.slice el, q1, q2, q3⟩) (hi : ieOf (res s.e im (evalO c s.e y)) = some ie) (hel : tlook c.T el = some ti) {id : Nat} {lo n : IE} (hx : res s.e im (evalO c s.e x) = .view id lo n) {fx : Bool} {e : TypeId} {α : Type} {f : α → V} {l : List α} (ho : olook s.o id = some (.arr fx e ti.sz f l))
    (h0 : 0 ≤ ie.den) (h1 : ie.den < n.den) {J : V → Prop} (hk : J (.eptr id (arI .add .i64 lo ie) 0)) : YieldTo P s w F β a op J := by
  have hxx := res_ra ha hr.toRel him x
  rw [hx] at hxx
  obtain ⟨k, hy, _⟩ := ieOf_ra (res_ra ha hr.toRel him y) hi
  obtain ⟨fx1, e1, sz1, α1, f1, l1, i, m, g1, hlo, hn, him', g2⟩ := RA.of_view hxx
  rw [ho] at g1
  simp only [Option.some.injEq, Ent.arr.injEq] at g1
  obtain ⟨rfl, rfl, rfl, rfl, hf, hl⟩ := g1
  have hf := eq_of_heq hf
  have hl := eq_of_heq hl
  subst hf; subst hl
  obtain ⟨j, hj⟩ : ∃ j : Nat, ie.den = j := ⟨ie.den.toNat, by omega⟩
  rcases g2 with ⟨rfl, _⟩ | ⟨b, cc, cur, hpos, m1, m2, m3, m4, m5, m6, m7⟩
  · omega
  · have hlt : j < m := by omega
    refine ⟨.pointer (some ⟨b, i * ti.sz + j * ti.sz, none⟩), _, fun w' => ?_, ?_, hk⟩
    · simp only [execOp, hop, Sem.run_bind, m2, hy, indexAt_slice (slice_ty hr.tab ht) hr.tab hel hj hlt, Result.andThen_ok, Sem.run_pure]
    · have hden : (arI .add .i64 lo ie).den = ((i + j : Nat) : Int) := by
        rw [arI_den]
        simp only [arD, hlo, hj]
        rw [wrap_id]
        · omega
        · rw [has_iff]; simp only [Vg.lo, Vg.hi]; unfold LIM at m5; omega
      have := RA.eptr (w := w) (F := F) (β := β) (o := s.o) id 0 b m1 fx e ti.sz (arI .add .i64 lo ie) (i + j) f l ho hden (by omega)
      rw [Nat.add_zero, Nat.add_mul] at this
      exact this

/-- A part of an own list, as a view. -/
theorem step_oview (ha : a.tmps = tm) (hr : Rl P c z F β s tm w) {im : List (Nat × Bool)} (him : ∀ t b, (t, b) ∈ im → tm.getD t undef = .bool b) {t el : TypeId} {x : Operand} {lo hi : Option Operand} {ti : TI} {q1 q2 : Nat} {q3 : List V} {l0 : IE} {h0 : Option IE}
    (ht : tlook c.T t = some ⟨.slice el, q1, q2, q3⟩) (hel : tlook c.T el = some ti)
    (hlo : (match lo with
        | some y => ieOf (res s.e im (evalO c s.e y))
        | none => some (.lit 0)) = some l0)
    (hhi : (match hi with
        | some y => (match ieOf (res s.e im (evalO c s.e y)) with
          | some e => some (some e)
          | none => none)
        | none => some none) = some h0) (hop : op.op = .slice t x lo hi none)
    {id : Nat} (hx : res s.e im (evalO c s.e x) = .osl id) {fx : Bool} {e : TypeId} {α : Type} {f : α → V} {l : List α} (ho : olook s.o id = some (.arr fx e ti.sz f l)) {i j : Nat} (hi1 : l0.den = (i : Int)) (hj1 : (h0.getD (.len l)).den = (j : Int)) (hij : i ≤ j) (hjl : j ≤ l.length) :
    ∃ (ad : Option Addr) (cc : Nat), a.eval x = .slice ad l.length cc ∧ (∀ w', (execOp a.eval op).run P w' = .ok (.value (.slice (if cc = i then ad else ad.map (·.add (i * ti.sz))) (j - i) (cc - i))) w') ∧
      ((l = [] ∧ ad = none ∧ cc = 0) ∨ ∃ b cur, β id = some b ∧ ad = some ⟨b, 0, none⟩ ∧ l.length ≤ cc ∧ cc ≤ maxLen ∧ l.length ≤ LIM ∧ w.heap[b]? = some (.cells cur e (0, 0)) ∧ cur.size = cc * ti.sz) := by
  have hxx := res_ra ha hr.toRel him x
  rw [hx] at hxx
  obtain ⟨fx1, e1, sz1, α1, f1, l1, g1, g2⟩ := RA.of_osl hxx
  rw [ho] at g1
  simp only [Option.some.injEq, Ent.arr.injEq] at g1
  obtain ⟨rfl, rfl, rfl, rfl, hf, hl⟩ := g1
  have hf := eq_of_heq hf
  have hl := eq_of_heq hl
  subst hf; subst hl
  have hlow : (lo.map a.eval = none ∧ i = 0) ∨ ∃ k, lo.map a.eval = some (.int k (i : Int)) := by
    cases lo with
    | none => simp only [Option.some.injEq] at hlo; subst hlo; simp only [IE.den] at hi1; exact .inl ⟨rfl, by omega⟩
    | some y =>
      simp only at hlo
      obtain ⟨k, hy, _⟩ := ieOf_ra (res_ra ha hr.toRel him y) hlo
      exact .inr ⟨k, by simp [hy, hi1]⟩
  have hhigh : (hi.map a.eval = none ∧ j = l.length) ∨ ∃ k, hi.map a.eval = some (.int k (j : Int)) := by
    cases hi with
    | none =>
      simp only [Option.some.injEq] at hhi; subst hhi
      simp only [Option.getD_none, IE.den] at hj1
      exact .inl ⟨rfl, by omega⟩
    | some y =>
      simp only at hhi
      split at hhi
      · rename_i e he
        simp only [Option.some.injEq] at hhi; subst hhi
        obtain ⟨k, hy, _⟩ := ieOf_ra (res_ra ha hr.toRel him y) he
        simp only [Option.getD_some] at hj1
        exact .inr ⟨k, by simp [hy, hj1]⟩
      · cases hhi
  rcases g2 with ⟨rfl, g2⟩ | ⟨b, cc, cur, m1, m2, m3, m4, m5, m6, m7⟩
  · have hrun := fun w' => sliceAt_run (P := P) (w := w') (ad := none) (len := 0) (cap := 0) (lo := lo.map a.eval) (hi := hi.map a.eval) (l := i) (h := j) (slice_ty hr.tab ht) hr.tab hel hlow (by simpa using hhigh) hij (by simpa using hjl) (Nat.le_refl _)
    refine ⟨none, 0, g2, fun w' => ?_, .inl ⟨rfl, rfl, rfl⟩⟩
    simp only [execOp, hop, Sem.run_bind, g2, hrun, Option.map_none, Result.andThen_ok, Sem.run_pure]
  · have hrun := fun w' => sliceAt_run (P := P) (w := w') (ad := some ⟨b, 0, none⟩) (len := l.length) (cap := cc) (lo := lo.map a.eval) (hi := hi.map a.eval) (l := i) (h := j) (slice_ty hr.tab ht) hr.tab hel hlow hhigh hij hjl m3
    refine ⟨some ⟨b, 0, none⟩, cc, m2, fun w' => ?_, .inr ⟨b, cur, m1, rfl, m3, m4, m5, m6, m7⟩⟩
    simp only [execOp, hop, Sem.run_bind, m2, hrun, Option.map_none, Result.andThen_ok, Sem.run_pure]

theorem step_subO (ha : a.tmps = tm) (hr : Rl P c z F β s tm w) {im : List (Nat × Bool)} (him : ∀ t b, (t, b) ∈ im → tm.getD t undef = .bool b) {t el : TypeId} {x : Operand} {lo hi : Option Operand} {ti : TI} {q1 q2 : Nat} {q3 : List V} {l0 : IE} {h0 : Option IE}
    (ht : tlook c.T t = some ⟨.slice el, q1, q2, q3⟩) (hel : tlook c.T el = some ti)
    (hlo : (match lo with
        | some y => ieOf (res s.e im (evalO c s.e y))
        | none => some (.lit 0)) = some l0)
    (hhi : (match hi with
        | some y => (match ieOf (res s.e im (evalO c s.e y)) with
          | some e => some (some e)
          | none => none)
        | none => some none) = some h0) (hop : op.op = .slice t x lo hi none)
    {id : Nat} (hx : res s.e im (evalO c s.e x) = .osl id) {fx : Bool} {e : TypeId} {α : Type} {f : α → V} {l : List α} (ho : olook s.o id = some (.arr fx e ti.sz f l))
    (hk : SubO l l0 (h0.getD (.len l)) (fun l' => bif (ltN id 10000) then K ⟨.sl ti.sz f l', [id], []⟩ else False) (fun lo n => K ⟨.view id lo n, [], []⟩) (fun l' => bif (ltN id 10000) || !(memN c.pin id) then K ⟨.osl id, [], [(id, true, .arr fx e ti.sz f l')]⟩ else False)) : StepTo P c z s tm w a op K := by
  cases hk with
  | freeze h =>
    have hlt : id < 10000 := by
      obtain ⟨_, _, _, _, _, _, hk⟩ := h
      have := (bif_true (hk _ rfl)).1
      simpa using this
    have h' : SubP l l0 (h0.getD (.len l)) (fun l' => K ⟨.sl ti.sz f l', [id], []⟩) := by
      obtain ⟨a, b, h1, h2, h3, h4, hk⟩ := h
      exact ⟨a, b, h1, h2, h3, h4, fun l' hl' => (bif_true (hk l' hl')).2⟩
    have hw := res_ra ha hr.toRel him x
    rw [hx] at hw
    obtain ⟨F1, β1, g1, g2, g3⟩ := hr.freeze (X := id) hlt
    have := g3 _ _ hw
    rw [ho] at this
    simp only [V.sub, sfrz, eqN_self, cond_true] at this
    obtain ⟨v, y, m1, m2, m3⟩ := step_sub ha hr him ht hel hlo hhi hop (RA.of_elems this rfl) (J := fun y => K ⟨y, [id], []⟩) h'
    exact StepTo.of_run (m1 w) m3 (by exact g1) (.d _ _ m2)
  | view lo' n h1 h2 h0' h3 h4 hk =>
    obtain ⟨i, hi1⟩ : ∃ i : Nat, l0.den = i := ⟨l0.den.toNat, by omega⟩
    obtain ⟨j, hj1⟩ : ∃ j : Nat, (h0.getD (.len l)).den = j := ⟨(h0.getD (.len l)).den.toNat, by omega⟩
    obtain ⟨ad, cc, e1, e2, e3⟩ := step_oview ha hr him ht hel hlo hhi hop hx ho hi1 hj1 (by omega) (by omega)
    refine StepTo.of_run (e2 w) hk hr ?_
    by_cases hz : j - i = 0
    · rw [hz]
      exact .view0 id fx e ti.sz f l ho lo' n i (h1.trans hi1) (by rw [h2]; omega) (by omega) _ _
    · rcases e3 with ⟨rfl, _, _⟩ | ⟨b, cur, m1, rfl, m3, m4, m5, m6, m7⟩
      · simp at h4; omega
      · have hne : ¬ cc = i := by omega
        rw [if_neg hne, Option.map_some, Addr.add_at, Nat.zero_add]
        exact .view id b m1 fx e ti.sz f l cc ho m3 m4 m5 cur m6 m7 lo' n i (j - i) (h1.trans hi1) (by rw [h2]; omega) (by omega) (by omega)
  | take h0' m hm h4 hk =>
    have hk := hk _ rfl
    obtain ⟨hlow, hk⟩ := bif_true hk
    obtain ⟨ad, cc, e1, e2, e3⟩ := step_oview ha hr him ht hel hlo hhi hop hx ho (i := 0) (by rw [h0']; rfl) hm (by omega) h4
    have hX : id < 10000 ∨ ∀ ent, olook z.o id = some ent → pinned ent = false := by
      simp only [Bool.or_eq_true, Bool.not_eq_true'] at hlow
      rcases hlow with h | h
      · exact .inl (by simpa using h)
      · refine .inr fun ent he => ?_
        cases hp : pinned ent with
        | false => rfl
        | true => rw [hr.pins id ent he hp] at h; cases h
    have hent := hr.own.ent id _ ho
    have hR := hr.anew (w' := w) (F' := F) (X := id) (nb := β id) (ent := .arr fx e ti.sz f (l.take m)) hX (fun _ _ _ => rfl) rfl rfl ⟨rfl, Nat.le_refl _⟩ (Nat.le_refl _) (fun _ h => h) (fun _ _ h => h) hr.Flt (fun b hb => .inr hb) (by
      rcases hent with ⟨k1, k2⟩ | ⟨b, cur, k1, k2, k3, k4, k5, k6⟩
      · exact .inl ⟨by simp [k1], by simp [k2]⟩
      · refine .inr ⟨b, cur, by simp [k1], k2, k3, Nat.le_trans (Nat.mul_le_mul_right _ (by simp; omega)) k4, k5, fun i p hp => ?_⟩
        rw [List.getElem?_take] at hp
        split at hp
        · exact k6 i p hp
        · cases hp)
    have hol : olook (up1 s (id, true, .arr fx e ti.sz f (l.take m))).o id = some (.arr fx e ti.sz f (l.take m)) := by simp [up1, olook, Ent.sub]
    refine StepTo.of_run (e2 w) hk hR ?_
    rcases e3 with ⟨rfl, rfl, rfl⟩ | ⟨b, cur, m1, rfl, m3, m4, m5, m6, m7⟩
    · have : m = 0 := by simpa using h4
      subst this
      exact .osl0 id fx e ti.sz f (by rw [List.take_nil] at hol; exact hol)
    · have hl : (l.take m).length = m := by simp; omega
      have : (if cc = 0 then some (⟨b, 0, none⟩ : Addr) else (some ⟨b, 0, none⟩ : Option Addr).map (·.add (0 * ti.sz))) = some ⟨b, 0, none⟩ := by
        split
        · rfl
        · rw [Option.map_some, Addr.add_at, Nat.zero_mul]
      rw [this, Nat.sub_zero, Nat.sub_zero]
      have := RA.osl (w := w) (F := F) (β := fun x => if x = id then β id else β x) (o := (up1 s (id, true, .arr fx e ti.sz f (l.take m))).o) id b (by simp [m1]) fx e ti.sz f (l.take m) cc hol (by omega) m4 (by omega) cur m6 m7
      rw [hl] at this
      exact this

/-- Cells are copied into an own list. -/
theorem step_copy (ha : a.tmps = tm) (hr : Rl P c z F β s tm w) {im : List (Nat × Bool)} (him : ∀ t b, (t, b) ∈ im → tm.getD t undef = .bool b) {t el : TypeId} {x y : Operand} {ti : TI} {q1 q2 : Nat} {q3 : List V}
    (hop : op.op = .call ⟨.builtin .copy, ⟨[x, y]⟩, ⟨[t, t]⟩⟩) (ht : tlook c.T t = some ⟨.slice el, q1, q2, q3⟩) (hel : tlook c.T el = some ti) (hpos : 0 < ti.sz)
    (hk : CopyP ti.sz (res s.e im (evalO c s.e x)) (res s.e im (evalO c s.e y)) s.o (fun _ => K ⟨.int .i64 (.lit 0), [], []⟩) (fun id fx e _ f l q => K ⟨.int .i64 (.nat q), [], [(id, false, .arr fx e ti.sz f l)]⟩)) : StepTo P c z s tm w a op K := by
  have hx := res_ra ha hr.toRel him x
  have hy := res_ra ha hr.toRel him y
  have hu := slice_ty hr.tab ht
  cases hk with
  | none sz1 sz2 es es' h1 h2 h hk =>
    obtain ⟨ad, cc, e1, _⟩ := vel_cells hr.own hx h2
    obtain ⟨ad', cc', e2, _⟩ := vel_cells hr.own hy h1
    have e3 : Nat.min es.length es'.length = 0 := by rcases h with rfl | rfl <;> simp
    have hl := fun ad => run_loadCells_list (P := P) w ad [] (by simp)
    refine StepTo.of_run (val := .int .i64 0) (w' := w) ?_ hk hr (ra_int (e := .lit 0) rfl (by rw [has_iff]; simp [lo, hi]))
    have hrun : (Builtin.copy_ #[t, t] op.type #[.slice ad es'.length cc, .slice ad' es.length cc']).run P w = .ok (.int .i64 0) w := by
      have hfc : (Builtin.firstCells ti.sz 0 (.slice ad' es.length cc')).run P w = .ok #[] w := by
        cases ad' with
        | none => simp [Builtin.firstCells]
        | some q => simpa [Builtin.firstCells] using hl q
      cases ad with
      | none => simp [Builtin.copy_, run_underlying hu, Builtin.lenOf, e3, sizeOf_run hr.tab hel, hfc, goInt]
      | some q => simp [Builtin.copy_, run_underlying hu, Builtin.lenOf, e3, sizeOf_run hr.tab hel, hfc, storeCells, goInt]
    simp only [execOp, hop, resolve, invoke, builtin, Sem.run_bind, Sem.run_pure, Result.andThen_ok, List.map_toArray, List.map_cons, List.map_nil, e1, e2, hrun]
  | some f l xs id fx e i m q ho hd hxs hq hqpos hk =>
    have hk := hk _ rfl
    obtain ⟨ad, cc, e1, e2, e3⟩ := news_cells hr.own hy hxs hpos
    have hxne : xs ≠ [] := fun h => by subst h; simp at hq; omega
    have hmpos : 0 < m := by omega
    obtain ⟨b2, off, news, rfl, n1, n2, n3, n4⟩ := e3.resolve_left hxne
    -- where it goes
    have hdst : ∃ b cur dc, β id = some b ∧ a.eval x = .slice (some ⟨b, i * ti.sz, none⟩) m dc ∧ i + m ≤ l.length ∧ w.heap[b]? = some (.cells cur e (0, 0)) := by
      rcases hd with ⟨hd, rfl, rfl⟩ | ⟨lo', n', hd, hlo, hn⟩
      · rw [hd] at hx
        obtain ⟨fx1, e1', sz1, α1, f1, l1, g1, g2⟩ := RA.of_osl hx
        rw [ho] at g1
        simp only [Option.some.injEq, Ent.arr.injEq] at g1
        obtain ⟨rfl, rfl, rfl, rfl, hf, hl⟩ := g1
        have hl := eq_of_heq hl
        subst hl
        rcases g2 with ⟨rfl, _⟩ | ⟨b, c', cur, k1, k2, k3, k4, k5, k6, k7⟩
        · simp at hmpos
        · exact ⟨b, cur, c', k1, by rw [k2, Nat.zero_mul], by omega, k6⟩
      · rw [hd] at hx
        obtain ⟨fx1, e1', sz1, α1, f1, l1, i', m', g1, hlo', hn', him', g2⟩ := RA.of_view hx
        rw [ho] at g1
        simp only [Option.some.injEq, Ent.arr.injEq] at g1
        obtain ⟨rfl, rfl, rfl, rfl, hf, hl⟩ := g1
        have hl := eq_of_heq hl
        subst hl
        have hi' : i' = i := by omega
        have hm' : m' = m := by omega
        subst hi'; subst hm'
        rcases g2 with ⟨h0, _⟩ | ⟨b, c', cur, _, k1, k2, k3, k4, k5, k6, k7⟩
        · omega
        · exact ⟨b, cur, _, k1, k2, him', k6⟩
    obtain ⟨b, cur, dc, hb, e4, him', hcur⟩ := hdst
    rcases hr.own.ent id _ ho with ⟨k1, _⟩ | ⟨b', cur', m1, m2, m3, m4, m5, m6⟩
    · rw [k1] at hb; cases hb
    rw [hb] at m1; cases m1
    rw [hcur] at m3; cases m3
    generalize hcs : news.take (q * ti.sz) = cs
    have hqm : q ≤ m := by omega
    have hqx : q ≤ xs.length := by omega
    have hcl : cs.length = q * ti.sz := by
      rw [← hcs, List.length_take, n1]
      exact Nat.min_eq_left (Nat.mul_le_mul_right _ hqx)
    have hcone : ∀ u, u ∈ cs → u.oneCell' = true := fun u hu => n3 u (by rw [← hcs] at hu; exact List.mem_of_mem_take hu)
    have hle : (i + q) * ti.sz ≤ cur.size := Nat.le_trans (Nat.mul_le_mul_right _ (by omega)) m4
    rw [Nat.add_mul] at hle
    have hld := run_loadCells_list (P := P) w ⟨b2, off, none⟩ cs (fun j v hj => by
      rw [← hcs, List.getElem?_take] at hj
      split at hj
      · exact n2 j v hj
      · cases hj)
    have hst := run_storeCells_at P b (i * ti.sz) e cs 0 cur w hcur (by omega) hcone
    simp only [Nat.add_zero] at hst
    have hmin : Nat.min xs.length m = q := hq.symm
    have hrun : (Builtin.copy_ #[t, t] op.type #[.slice (some ⟨b, i * ti.sz, none⟩) m dc, .slice (some ⟨b2, off, none⟩) xs.length cc]).run P w = .ok (.int .i64 q) (w.setRow b (cur.toList.take (i * ti.sz) ++ cs ++ cur.toList.drop (i * ti.sz + cs.length)).toArray) := by
      rw [hcl] at hld
      simp [Builtin.copy_, run_underlying hu, Builtin.lenOf, hmin, sizeOf_run hr.tab hel, Builtin.firstCells, hld, hst, goInt]
    have hlen : i * ti.sz + cs.length ≤ cur.toList.length := by rw [hcl]; simpa using hle
    have hql : (q : Int) = (IE.nat q).den := rfl
    have hlenl : (l.take i ++ (xs.take q ++ l.drop (i + q))).length = l.length := by simp; omega
    refine StepTo.of_run (val := .int .i64 q) (w' := w.setRow b (cur.toList.take (i * ti.sz) ++ cs ++ cur.toList.drop (i * ti.sz + cs.length)).toArray) ?_ hk
      (hr.write (w' := w.setRow b _) ho hb (fun b' _ hne => setRow_other w b b' _ hne) rfl rfl ⟨rfl, Nat.le_refl _⟩ (by simp)
        (.inr ⟨_, _, _, _, _, _, _, _, _, rfl, rfl, hlenl, fun cur' hc => ⟨_, setRow_heap w b cur _ e (0, 0) hcur, by rw [hcur] at hc; cases hc; rw [List.size_toArray, seg_size _ _ _ hlen]; simp⟩⟩) (fun _ hd' => ?_))
      (ra_int rfl (has_len (by omega)))
    · simp only [execOp, hop, resolve, invoke, builtin, Sem.run_bind, Sem.run_pure, Result.andThen_ok, List.map_toArray, List.map_cons, List.map_nil, e4, e1, hrun]
    · refine .inr ⟨b, _, hb, m2, setRow_heap w b cur _ e (0, 0) hcur, ?_, seg_one m5 hcone, fun j p hp => ?_⟩
      · rw [hlenl, List.size_toArray, seg_size _ _ _ hlen]; simpa using m4
      · have hcase : (j < i ∧ l[j]? = some p) ∨ (i ≤ j ∧ j < i + q ∧ xs[j - i]? = some p) ∨ (i + q ≤ j ∧ l[j]? = some p) := by
          rw [List.getElem?_append] at hp
          have h1 : (l.take i).length = i := by simp; omega
          rw [h1] at hp
          split at hp
          · rename_i hj
            rw [List.getElem?_take, if_pos hj] at hp
            exact .inl ⟨hj, hp⟩
          · rename_i hj
            rw [List.getElem?_append] at hp
            have h2 : (xs.take q).length = q := by simp; omega
            rw [h2] at hp
            split at hp
            · rename_i hj2
              rw [List.getElem?_take, if_pos hj2] at hp
              exact .inr (.inl ⟨by omega, by omega, hp⟩)
            · rename_i hj2
              rw [List.getElem?_drop, show i + q + (j - i - q) = j by omega] at hp
              exact .inr (.inr ⟨by omega, hp⟩)
        have keep : ∀ p, (j < i ∨ i + q ≤ j) → l[j]? = some p → (cells (f p)).length = ti.sz ∧ ∀ (k : Nat) (y : V), (cells (f p))[k]? = some y → ∃ cv, (cur.toList.take (i * ti.sz) ++ cs ++ cur.toList.drop (i * ti.sz + cs.length)).toArray[j * ti.sz + k]? = some cv ∧ RD (w.setRow b (cur.toList.take (i * ti.sz) ++ cs ++ cur.toList.drop (i * ti.sz + cs.length)).toArray) F cv y := fun p hj hp => by
          obtain ⟨r1, r2⟩ := m6 j p hp
          refine ⟨r1, fun k yy hk' => ?_⟩
          obtain ⟨cv, s1, s2⟩ := r2 k yy hk'
          have hks : k < ti.sz := by rw [← r1]; exact (List.getElem?_eq_some_iff.1 hk').1
          refine ⟨cv, ?_, hd' _ _ s2⟩
          rw [List.getElem?_toArray, seg_get _ _ _ _ hlen, hcl]
          rcases hj with hj | hj
          · have : (j + 1) * ti.sz ≤ i * ti.sz := Nat.mul_le_mul_right _ hj
            rw [Nat.add_mul, Nat.one_mul] at this
            rw [if_pos (by omega)]; simpa using s1
          · have : (i + q) * ti.sz ≤ j * ti.sz := Nat.mul_le_mul_right _ hj
            rw [Nat.add_mul] at this
            rw [if_neg (by omega), if_neg (by omega)]; simpa using s1
        rcases hcase with ⟨hj, hp⟩ | ⟨hj1, hj2, hp⟩ | ⟨hj, hp⟩
        · exact keep p (.inl hj) hp
        · obtain ⟨r1, r2⟩ := n4 (j - i) p hp
          refine ⟨r1, fun k yy hk' => ?_⟩
          obtain ⟨cv, s1, s2⟩ := r2 k yy hk'
          have hks : k < ti.sz := by rw [← r1]; exact (List.getElem?_eq_some_iff.1 hk').1
          refine ⟨cv, ?_, hd' _ _ s2⟩
          have h1 : i * ti.sz ≤ j * ti.sz := Nat.mul_le_mul_right _ hj1
          have h2 : (j - i) * ti.sz = j * ti.sz - i * ti.sz := Nat.sub_mul _ _ _
          have h3 : (j - i + 1) * ti.sz ≤ q * ti.sz := Nat.mul_le_mul_right _ (by omega)
          rw [Nat.add_mul, Nat.one_mul] at h3
          rw [List.getElem?_toArray, seg_get _ _ _ _ hlen, hcl, if_neg (by omega), if_pos (by omega), ← hcs, List.getElem?_take, if_pos (by omega), show j * ti.sz + k - i * ti.sz = (j - i) * ti.sz + k by omega]
          exact s1
        · exact keep p (.inr hj) hp

end
end Go.Vg
