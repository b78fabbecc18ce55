/- The conditions suffice, operation by operation. -/
import Derived.Test.YtnapnedfhimikaaDoorVgI
import Derived.Laws.Rows
import Derived.Great.BuildSlice
set_option maxRecDepth 4000
set_option linter.all false
set_option linter.unusedVariables false
set_option linter.unusedSimpArgs false
namespace Go.Vg
open Go

section
variable {P : Program} {c : Ctx} {z : From} {F : Nat → Prop} {β : Bt} {s : St} {tm : Array Value} {w : World} {a : Act} {op : Oper} {K : Out → Prop}

def StepTo (P : Program) (c : Ctx) (z : From) (s : St) (tm : Array Value) (w : World) (a : Act) (op : Oper) (K : Out → Prop) : Prop :=
  ∀ (next : Act → World → Prop) (Q : Exit → Act → World → Prop), (∀ out F' β' val w', K out → Rl P c z F' β' (s.after out) tm w' → RA w' F' β' (s.after out).o val out.v → next (a.put op.dst val) w') → op.wp P a w next Q

theorem StepTo.of_run {val : Value} {w' : World} {out : Out} {F' : Nat → Prop} {β' : Bt} (h : (execOp a.eval op).run P w = .ok (.value val) w') (hk : K out) (hr : Rl P c z F' β' (s.after out) tm w') (hv : RA w' F' β' (s.after out).o val out.v) :
    StepTo P c z s tm w a op K := fun next Q hn => by
  unfold Oper.wp; rw [h]; exact hn out F' β' val w' hk hr hv
theorem StepTo.of_skip {w' : World} {out : Out} {F' : Nat → Prop} {β' : Bt} (h : (execOp a.eval op).run P w = .ok .skip w') (hk : K out) (hr : Rl P c z F' β' (s.after out) tm w') (hv : out.v = .junk) :
    StepTo P c z s tm w a op K := fun next Q hn => by
  unfold Oper.wp; rw [h]; exact hn out F' β' undef w' hk hr (by rw [hv]; exact .junk _)

/-- A value, whatever the world; nothing is turned. -/
def YieldTo (P : Program) (s : St) (w : World) (F : Nat → Prop) (β : Bt) (a : Act) (op : Oper) (J : V → Prop) : Prop :=
  ∃ v x, (∀ w', (execOp a.eval op).run P w' = .ok (.value v) w') ∧ RA w F β s.o v x ∧ J x
theorem YieldTo.step (hr : Rl P c z F β s tm w) (h : YieldTo P s w F β a op (fun x => K ⟨x, [], []⟩)) : StepTo P c z s tm w a op K :=
  let ⟨_, _, h1, h2, h3⟩ := h
  StepTo.of_run (h1 w) h3 hr h2

theorem cellsX_ra {o : Own} {v : Value} {x : V} {cs : List V} (h : RA w F β o v x) (hx : cellsX x = some cs) : v.cells.size = cs.length ∧ (∀ u, u ∈ v.cells → u.oneCell' = true) ∧
    ∀ (i : Nat) (u : Value) (y : V), v.cells[i]? = some u → cs[i]? = some y → RA w F β o u y := by
  have one : ∀ x : V, v.oneCell' = true → cellsX x = some [x] → RA w F β o v x → v.cells.size = 1 ∧ (∀ u, u ∈ v.cells → u.oneCell' = true) ∧ ∀ (i : Nat) (u : Value) (y : V), v.cells[i]? = some u → [x][i]? = some y → RA w F β o u y := by
    intro x h1 _ h2
    have hc : v.cells = #[v] := by cases v <;> first | rfl | simp [Value.oneCell'] at h1
    rw [hc]
    refine ⟨rfl, by simpa using h1, fun i u y hi hy => ?_⟩
    cases i with
    | zero => simp at hi hy; subst hi; subst hy; exact h2
    | succ i => simp at hi
  cases x <;> simp only [cellsX, Option.some.injEq, reduceCtorEq] at hx
  case agg xs =>
    subst hx
    obtain ⟨cs, rfl, h1, h2, h3⟩ := RA.of_agg h
    exact ⟨h1, h2, h3⟩
  case int k e => subst hx; exact one _ (by rw [(RA.of_int h).1]; rfl) rfl h
  case bool e => subst hx; exact one _ (by rw [RA.of_bool h]; rfl) rfl h
  case str e => subst hx; exact one _ (by rw [(RA.of_str h).1]; rfl) rfl h
  case sl sz α f l => subst hx; obtain ⟨_, _, e, _⟩ := slice_val (RA.of_elems h rfl) rfl; exact one _ (by rw [e]; rfl) rfl h
  case sls sz vs => subst hx; obtain ⟨_, _, e, _⟩ := slice_val (RA.of_elems h rfl) rfl; exact one _ (by rw [e]; rfl) rfl h
  case nilsl => subst hx; obtain ⟨_, _, e, _⟩ := slice_val (RA.of_elems h rfl) rfl; exact one _ (by rw [e]; rfl) rfl h
  case osl id => subst hx; obtain ⟨_, _, _, _, _, _, _, h2⟩ := RA.of_osl h; exact one _ (by rcases h2 with ⟨_, e⟩ | ⟨_, _, _, _, e, _⟩ <;> rw [e] <;> rfl) rfl h
  case view id lo n => subst hx; obtain ⟨_, _, _, _, _, _, _, _, _, _, _, _, h2⟩ := RA.of_view h; exact one _ (by rcases h2 with ⟨_, _, _, e⟩ | ⟨_, _, _, _, _, e, _⟩ <;> rw [e] <;> rfl) rfl h
  case ptr id off => subst hx; obtain ⟨_, _, _, _, e⟩ := RA.of_ptr h; exact one _ (by rw [e]; rfl) rfl h
  case rptr xs => subst hx; obtain ⟨_, e⟩ := rptr_val (RA.of_rptr h); exact one _ (by rw [e]; rfl) rfl h
  case fn f xs ys => subst hx; obtain ⟨_, _, e, _⟩ := RA.of_fn h; exact one _ (by rw [e]; rfl) rfl h
  case nilptr => subst hx; exact one _ (by rw [RA.of_nilptr h]; rfl) rfl h
  case nilfn => subst hx; exact one _ (by rw [RA.of_nilfn h]; rfl) rfl h

theorem heap_push (w : World) (o : Obj) : ∀ b, b < w.heap.size → (w.heap.push o)[b]? = w.heap[b]? := fun b hb => by rw [Array.getElem?_push, if_neg (by omega)]

/-- A new variable. -/
theorem Rl.newVar (hr : Rl P c z F β s tm w) {d : Nat} (hd : d < 10000) {cv : Array Value} {cs : List V} {t : TypeId} (h1 : cv.size = cs.length) (h2 : ∀ u, u ∈ cv → u.oneCell' = true)
    (h3 : ∀ (i : Nat) (u : Value) (y : V), cv[i]? = some u → cs[i]? = some y → RA w F β s.o u y) :
    ∃ F' β', Rl P c z F' β' (up1 s (d, true, .var cs)) tm { w with heap := w.heap.push (.cells cv t) } ∧ RA { w with heap := w.heap.push (.cells cv t) } F' β' (up1 s (d, true, .var cs)).o (.pointer (some ⟨w.heap.size, 0, none⟩)) (.ptr d 0) := by
  let w' : World := { w with heap := w.heap.push (.cells cv t) }
  let F' : Nat → Prop := fun b => F b ∨ b = w.heap.size
  have hlt : ∀ b, F b → b < w.heap.size := hr.Flt
  have hk : ∀ b, b < w.heap.size → w'.heap[b]? = w.heap[b]? := heap_push w _
  have hF2 : ∀ b, b < w.heap.size → F' b → F b := fun b hb h => h.resolve_right (by omega)
  have hsz : w.heap.size ≤ w'.heap.size := by simp [w']
  have hd' := hd_of (w := w) (w' := w') (F := F) (F' := F') (fun b hb _ => hk b hb) hF2 hsz
  have hdomX : ∀ b, β d = some b → ∃ e0, olook s.o d = some e0 := fun b hb => by
    cases h : olook s.o d with
    | some e => exact ⟨e, rfl⟩
    | none => rw [hr.dom d h] at hb; cases hb
  have hR := hr.anew (w' := w') (F' := F') (X := d) (nb := some w.heap.size) (ent := .var cs) (.inl hd) (fun b hb _ => hk b hb) rfl rfl ⟨rfl, Nat.le_refl _⟩ hsz (fun b h => .inl h) hF2
    (fun b h => by rcases h with h | h; (· have := hlt b h; simp [w']; omega); (· simp [w', h])) (fun b hb => by cases hb; exact .inl (Nat.le_refl _)) ?_
  · refine ⟨F', _, hR, .ptr d 0 w.heap.size (by simp) (V.subl (spurge d) cs) (by simp [up1, olook, Ent.sub])⟩
  · refine ⟨w.heap.size, cv, t, by simp, .inr rfl, by simp [w'], by simp [h1, V.subl_eq], h2, fun i u y hi hy => ?_⟩
    rw [V.subl_eq, List.getElem?_map, Option.map_eq_some_iff] at hy
    obtain ⟨y', hy', rfl⟩ := hy
    refine RA.purge hd' (fun id e0 hne he => ?_) (h3 i u y' hi hy')
    have hol : olook (up1 s (d, true, .var cs)).o id = (olook s.o id).map (Ent.sub (spurge d)) := by simp [up1, olook, beq_false hne, olook_subO, olook_oerase, hne]
    refine ⟨by simp [hne], fun cs h => ⟨_, by rw [hol, h]; rfl⟩, fun fx e sz α f l h => ⟨fx, α, f, l, by rw [hol, h]; rfl, rfl, fun b cur hb hc => ⟨cur, ?_, rfl⟩⟩⟩
    rw [hk b (blk_lt hc)]; exact hc

theorem after_one (s : St) (v : V) (u : Nat × Bool × Ent) : s.after ⟨v, [], [u]⟩ = up1 s u := rfl
theorem after_none (s : St) (v : V) : s.after ⟨v, [], []⟩ = s := rfl

theorem step_alloc (hr : Rl P c z F β s tm w) {t : TypeId} {ti : TI} {d : Nat} (hop : op.op = .alloc t) (ht : tlook c.T t = some ti) (hd : d < 10000) (hk : K ⟨.ptr d 0, [], [(d, true, .var ti.zero)]⟩) : StepTo P c z s tm w a op K := by
  obtain ⟨info, zv, desc, h1, h2, h3, h4, h5, h6, h7, h8, h9, h10⟩ := hr.tab.ok t ti ht
  obtain ⟨F', β', g1, g2⟩ := hr.newVar (t := t) hd (cv := zv.cells) (cs := ti.zero) (by rw [← h7]; simp) h9 (fun i u y hi hy => by
    rw [← h7, List.getElem?_map, Option.map_eq_some_iff] at hy
    obtain ⟨u', hu', rfl⟩ := hy
    have : zv.cells.toList[i]? = some u := by simpa using hi
    rw [this] at hu'; cases hu'
    exact .d _ _ (constV_rd w F u))
  refine StepTo.of_run (val := .pointer (some ⟨w.heap.size, 0, none⟩)) (w' := { w with heap := w.heap.push (.cells zv.cells t) }) ?_ hk g1 g2
  simp [execOp, hop, Instr.alloc, zeroValue, typeInfo, h1, h6, newVar, newRow]

theorem step_box (ha : a.tmps = tm) (hr : Rl P c z F β s tm w) {im : List (Nat × Bool)} (him : ∀ t b, (t, b) ∈ im → tm.getD t undef = .bool b) {t : TypeId} {x : Operand} {d : Nat} {cs : List V} (hop : op.op = .box t x)
    (hx : cellsX (res s.e im (evalO c s.e x)) = some cs) (hd : d < 10000) (hk : K ⟨.ptr d 0, [], [(d, true, .var cs)]⟩) : StepTo P c z s tm w a op K := by
  obtain ⟨h1, h2, h3⟩ := cellsX_ra (res_ra ha hr.toRel him x) hx
  obtain ⟨F', β', g1, g2⟩ := hr.newVar (t := t) hd h1 h2 h3
  refine StepTo.of_run (val := .pointer (some ⟨w.heap.size, 0, none⟩)) (w' := { w with heap := w.heap.push (.cells (a.eval x).cells t) }) ?_ hk g1 g2
  simp [execOp, hop, Instr.box, newVar, newRow]

theorem setAt_get (vs : List V) : ∀ (off : Nat) (cs : List V) (j : Nat), off + vs.length ≤ cs.length → (setAt cs off vs)[j]? = if j < off then cs[j]? else if j < off + vs.length then vs[j - off]? else cs[j]? := by
  induction vs with
  | nil =>
    intro off cs j _
    simp only [setAt, List.length_nil, Nat.add_zero]
    by_cases h : j < off
    · simp [h]
    · simp [h]
  | cons v r ih =>
    intro off cs j h
    simp only [List.length_cons] at h
    rw [setAt, ih (off + 1) (cs.set off v) j (by simp; omega)]
    simp only [List.getElem?_set, List.length_cons]
    by_cases h1 : j < off
    · simp [h1, show j < off + 1 by omega, show ¬ off = j by omega]
    · by_cases h2 : j = off
      · subst h2
        have h3 : j < cs.length := by omega
        simp [h3]
      · have h3 : ¬ j < off + 1 := by omega
        have h4 : ¬ off = j := by omega
        simp only [h1, h3, h4, if_false]
        by_cases h5 : j < off + (r.length + 1)
        · have h6 : j < off + 1 + r.length := by omega
          simp only [h5, h6, if_true]
          rw [show j - off = (j - (off + 1)) + 1 by omega]
          rfl
        · have h6 : ¬ j < off + 1 + r.length := by omega
          simp only [h5, h6, if_false]
theorem seg_get {α : Type _} (l vs : List α) (k j : Nat) (h : k + vs.length ≤ l.length) : (l.take k ++ vs ++ l.drop (k + vs.length))[j]? = if j < k then l[j]? else if j < k + vs.length then vs[j - k]? else l[j]? := by
  have hk : min k l.length = k := by omega
  simp only [List.getElem?_append, List.length_append, List.length_take, hk, List.getElem?_take, List.getElem?_drop]
  by_cases h1 : j < k
  · simp [h1, show j < k + vs.length by omega]
  · by_cases h2 : j < k + vs.length
    · simp [h1, h2]
    · simp only [h1, h2, if_false]
      congr 1; omega
theorem setAt_len (vs : List V) : ∀ (off : Nat) (cs : List V), (setAt cs off vs).length = cs.length := by
  induction vs with
  | nil => intro off cs; rfl
  | cons v r ih => intro off cs; rw [setAt, ih]; simp


theorem seg_size (cur vs : List Value) (k : Nat) (h : k + vs.length ≤ cur.length) : (cur.take k ++ vs ++ cur.drop (k + vs.length)).length = cur.length := by
  simp; omega
theorem seg_one {cur : Array Value} {vs : List Value} {k : Nat} (h1 : ∀ v, v ∈ cur → v.oneCell' = true) (h2 : ∀ v, v ∈ vs → v.oneCell' = true) : ∀ v, v ∈ (cur.toList.take k ++ vs ++ cur.toList.drop (k + vs.length)).toArray → v.oneCell' = true := by
  intro v hv
  simp only [List.mem_toArray, List.mem_append] at hv
  rcases hv with (hv | hv) | hv
  · exact h1 v (by simpa using List.mem_of_mem_take hv)
  · exact h2 v hv
  · exact h1 v (by simpa using List.mem_of_mem_drop hv)

theorem storeVar_run {T : Tab} (hT : TabOk P T) {t : TypeId} {ti : TI} (ht : tlook T t = some ti) {b off : Nat} {cur : Array Value} {e : TypeId} (hb : w.heap[b]? = some (.cells cur e (0, 0))) {v : Value} (h1 : v.cells.size = ti.sz) (h2 : off + ti.sz ≤ cur.size)
    (h3 : ∀ u, u ∈ v.cells → u.oneCell' = true) : (storeVar t ⟨b, off, none⟩ v).run P w = .ok () (w.setRow b (cur.toList.take off ++ v.cells.toList ++ cur.toList.drop (off + v.cells.toList.length)).toArray) := by
  have := run_storeCells_at P b off e v.cells.toList 0 cur w hb (by simp; omega) (fun u hu => h3 u (by simpa using hu))
  simp only [Nat.add_zero] at this
  simp [storeVar, Sem.run_bind, sizeOf_run hT ht, h1, this]

theorem step_store (ha : a.tmps = tm) (hr : Rl P c z F β s tm w) {im : List (Nat × Bool)} (him : ∀ t b, (t, b) ∈ im → tm.getD t undef = .bool b) {t : TypeId} {x y : Operand} {ti : TI} {id off : Nat} {cs vs : List V} (hop : op.op = .store t x y)
    (ht : tlook c.T t = some ti) (hx : res s.e im (evalO c s.e x) = .ptr id off) (hy : cellsX (res s.e im (evalO c s.e y)) = some vs) (ho : olook s.o id = some (.var cs)) (hl : vs.length = ti.sz) (hb : off + ti.sz ≤ cs.length)
    (hk : K ⟨.junk, [], [(id, false, .var (setAt cs off vs))]⟩) : StepTo P c z s tm w a op K := by
  obtain ⟨h1, h2, h3⟩ := cellsX_ra (res_ra ha hr.toRel him y) hy
  have hxx := res_ra ha hr.toRel him x
  rw [hx] at hxx
  obtain ⟨b, cs', g1, g2, g3⟩ := RA.of_ptr hxx
  rw [ho] at g2; cases g2
  obtain ⟨b', cur, e, m1, m2, m3, m4, m5, m6⟩ := hr.own.ent id _ ho
  rw [g1] at m1; cases m1
  have hsz : (a.eval y).cells.size = ti.sz := h1.trans hl
  have hrun := storeVar_run (w := w) hr.tab ht m3 hsz (off := off) (by omega) h2
  have hlen : off + (a.eval y).cells.toList.length ≤ cur.toList.length := by simp; omega
  refine StepTo.of_skip (w' := w.setRow b (cur.toList.take off ++ (a.eval y).cells.toList ++ cur.toList.drop (off + (a.eval y).cells.toList.length)).toArray) ?_ hk
    (hr.write (w' := w.setRow b _) ho g1 (fun b' _ hne => setRow_other w b b' _ hne) rfl rfl ⟨rfl, Nat.le_refl _⟩ (by simp) (.inl ⟨_, _, rfl, rfl⟩) (fun g _ => ?_)) rfl
  · simp only [execOp, hop, Sem.run_bind, Instr.storeAt, Instr.sureAddr, g3, Sem.run_pure, Result.andThen_ok, hrun]
  · refine ⟨b, _, e, g1, m2, setRow_heap w b cur _ e (0, 0) m3, ?_, seg_one m5 (fun u hu => h2 u (by simpa using hu)), fun i u q hi hq => ?_⟩
    · rw [setAt_len, List.size_toArray, seg_size _ _ _ hlen, ← m4]; simp
    · rw [List.getElem?_toArray, seg_get _ _ _ _ hlen] at hi
      rw [setAt_get _ _ _ _ (by omega)] at hq
      by_cases c1 : i < off
      · simp only [c1, if_true] at hi hq
        exact g _ _ (m6 i u q (by simpa using hi) hq)
      · by_cases c2 : i < off + vs.length
        · have c3 : i < off + (a.eval y).cells.toList.length := by simp; omega
          simp only [c1, c2, c3, if_false, if_true] at hi hq
          exact g _ _ (h3 (i - off) u q (by simpa using hi) hq)
        · have c3 : ¬ i < off + (a.eval y).cells.toList.length := by simp; omega
          simp only [c1, c2, c3, if_false] at hi hq
          exact g _ _ (m6 i u q (by simpa using hi) hq)

theorem CEqL.get {xs ys : List V} (h : CEqL xs ys) {j : Nat} {y : V} (hy : ys[j]? = some y) : ∃ x, xs[j]? = some x ∧ CEq x y := by
  have hlt : j < xs.length := by rw [h.1]; exact (List.getElem?_eq_some_iff.1 hy).1
  exact ⟨xs[j], List.getElem?_eq_getElem hlt, h.2 j _ y (List.getElem?_eq_getElem hlt) hy⟩

theorem step_estore (ha : a.tmps = tm) (hr : Rl P c z F β s tm w) {im : List (Nat × Bool)} (him : ∀ t b, (t, b) ∈ im → tm.getD t undef = .bool b) {t : TypeId} {x y : Operand} {ti : TI} {id off : Nat} {ix : IE} {vs : List V} (hop : op.op = .store t x y)
    (ht : tlook c.T t = some ti) (hx : res s.e im (evalO c s.e x) = .eptr id ix off) (hy : cellsX (res s.e im (evalO c s.e y)) = some vs) {fx : Bool} {e : TypeId} {sz : Nat} {α : Type} {f : α → V} {l : List α} (ho : olook s.o id = some (.arr fx e sz f l))
    (hl : vs.length = ti.sz) (hb : off + ti.sz ≤ sz) (hdat : isDatal vs = true) (hk : EstoreP f l ix off vs (fun l' => K ⟨.junk, [], [(id, false, .arr fx e sz f l')]⟩)) : StepTo P c z s tm w a op K := by
  obtain ⟨h1, h2, h3⟩ := cellsX_ra (res_ra ha hr.toRel him y) hy
  have hxx := res_ra ha hr.toRel him x
  rw [hx] at hxx
  obtain ⟨b, fx1, e1, sz1, n, α1, f1, l1, g1, g2, g3, g4, g5⟩ := RA.of_eptr hxx
  rw [ho] at g2
  simp only [Option.some.injEq, Ent.arr.injEq] at g2
  obtain ⟨rfl, rfl, rfl, rfl, hf, hll⟩ := g2
  have hf := eq_of_heq hf
  have hll := eq_of_heq hll
  subst hf; subst hll
  have hnat : ix.den.toNat = n := by rw [g3]; simp
  rcases hr.own.ent id _ ho with ⟨k1, _⟩ | ⟨b', cur, m1, m2, m3, m4, m5, m6⟩
  · rw [k1] at g1; cases g1
  rw [g1] at m1; cases m1
  obtain ⟨hk⟩ := hk
  have hp : l[ix.den.toNat]? = some l[n] := by rw [hnat]; exact List.getElem?_eq_getElem g4
  have hpn : l[n]? = some l[n] := List.getElem?_eq_getElem g4
  obtain ⟨q1, q2⟩ := m6 n _ hpn
  have hwf : V.wf (f l[n]) := V.wf_of_cells fun j y hy => by
    obtain ⟨cv, _, hcv⟩ := q2 j y hy
    exact hcv.wf
  obtain ⟨p', hp1, hp2⟩ := hk _ hp hwf
  have hk' := hp2 _ rfl
  rw [hnat] at hk'
  have hbd : n * sz + sz ≤ cur.size := by
    have : (n + 1) * sz ≤ l.length * sz := Nat.mul_le_mul_right _ g4
    rw [Nat.add_mul, Nat.one_mul] at this
    omega
  have hsz : (a.eval y).cells.size = ti.sz := h1.trans hl
  have hrun := storeVar_run (w := w) hr.tab ht m3 hsz (off := n * sz + off) (by omega) h2
  have hlen : n * sz + off + (a.eval y).cells.toList.length ≤ cur.toList.length := by simp; omega
  refine StepTo.of_skip (w' := w.setRow b (cur.toList.take (n * sz + off) ++ (a.eval y).cells.toList ++ cur.toList.drop (n * sz + off + (a.eval y).cells.toList.length)).toArray) ?_ hk'
    (hr.write (w' := w.setRow b _) ho g1 (fun b' _ hne => setRow_other w b b' _ hne) rfl rfl ⟨rfl, Nat.le_refl _⟩ (by simp)
      (.inr ⟨_, _, _, _, _, _, _, _, _, rfl, rfl, by simp, fun cur' hc => ⟨_, setRow_heap w b cur _ e (0, 0) m3, by rw [m3] at hc; cases hc; rw [List.size_toArray, seg_size _ _ _ hlen]; simp⟩⟩) (fun _ hd => ?_)) rfl
  · simp only [execOp, hop, Sem.run_bind, Instr.storeAt, Instr.sureAddr, g5, Sem.run_pure, Result.andThen_ok, hrun]
  · have hcell : (cells (f p')).length = sz := by rw [← hp1.1, setAt_len, q1]
    refine .inr ⟨b, _, g1, m2, setRow_heap w b cur _ e (0, 0) m3, ?_, seg_one m5 (fun u hu => h2 u (by simpa using hu)), fun i p hi => ?_⟩
    · rw [List.size_toArray, seg_size _ _ _ hlen]; simp; omega
    · rw [List.getElem?_set] at hi
      by_cases ei : n = i
      · subst ei
        simp only [g4, if_true, Option.some.injEq] at hi
        subst hi
        refine ⟨hcell, fun j yy hj => ?_⟩
        obtain ⟨xx, hx1, hx2⟩ := hp1.get hj
        rw [setAt_get _ _ _ _ (by omega)] at hx1
        have hjsz : j < sz := by rw [← hcell]; exact (List.getElem?_eq_some_iff.1 hj).1
        rw [List.getElem?_toArray, seg_get _ _ _ _ hlen]
        by_cases c1 : j < off
        · simp only [c1, if_true] at hx1
          obtain ⟨cv, k1, k2⟩ := q2 j xx hx1
          refine ⟨cv, by rw [if_pos (by omega)]; simpa using k1, hx2 _ _ _ (hd _ _ k2)⟩
        · by_cases c2 : j < off + vs.length
          · simp only [c1, c2, if_false, if_true] at hx1
            have hlt : j - off < (a.eval y).cells.size := by omega
            have hcv := Array.getElem?_eq_getElem hlt
            refine ⟨(a.eval y).cells[j - off], ?_, hx2 _ _ _ ?_⟩
            · rw [if_neg (by omega), if_pos (by simp; omega), show n * sz + j - (n * sz + off) = j - off by omega]
              simpa using hcv
            · exact hd _ _ ((h3 (j - off) _ xx hcv hx1).data ((isDatal_iff _).1 hdat xx (List.mem_of_getElem? hx1)))
          · simp only [c1, c2, if_false] at hx1
            obtain ⟨cv, k1, k2⟩ := q2 j xx hx1
            refine ⟨cv, by rw [if_neg (by omega), if_neg (by simp; omega)]; simpa using k1, hx2 _ _ _ (hd _ _ k2)⟩
      · simp only [ei, if_false] at hi
        obtain ⟨r1, r2⟩ := m6 i p hi
        refine ⟨r1, fun j yy hj => ?_⟩
        obtain ⟨cv, k1, k2⟩ := r2 j yy hj
        have hjsz : j < sz := by rw [← r1]; exact (List.getElem?_eq_some_iff.1 hj).1
        refine ⟨cv, ?_, hd _ _ k2⟩
        rw [List.getElem?_toArray, seg_get _ _ _ _ hlen]
        have hne : i * sz + j < n * sz + off ∨ n * sz + off + (a.eval y).cells.toList.length ≤ i * sz + j := by
          simp only [Array.length_toList]
          rcases Nat.lt_or_ge i n with h | h
          · left
            have : (i + 1) * sz ≤ n * sz := Nat.mul_le_mul_right _ h
            rw [Nat.add_mul, Nat.one_mul] at this
            omega
          · right
            have : (n + 1) * sz ≤ i * sz := Nat.mul_le_mul_right _ (by omega)
            rw [Nat.add_mul, Nat.one_mul] at this
            omega
        rcases hne with h | h
        · rw [if_pos h]; simpa using k1
        · rw [if_neg (by omega), if_neg (by omega)]; simpa using k1

end
end Go.Vg
