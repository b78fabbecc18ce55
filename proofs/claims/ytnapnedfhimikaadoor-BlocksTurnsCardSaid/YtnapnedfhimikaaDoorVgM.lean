/- The conditions suffice: make, build, append, calls. -/
import Derived.Test.YtnapnedfhimikaaDoorVgL
set_option maxRecDepth 4000
set_option linter.all false
set_option linter.unusedVariables false
set_option linter.unusedSimpArgs false
namespace Go.Vg
open Go

section
variable {P : Program} {c : Ctx} {z : From} {F : Nat → Prop} {β : Bt} {s : St} {tm : Array Value} {w : World} {a : Act} {op : Oper} {K : Out → Prop}

/-- A new own list. -/
theorem Rl.newArr (hr : Rl P c z F β s tm w) {d : Nat} (hd : d < 10000 ∨ (∀ ent, olook z.o d = some ent → pinned ent = false)) {cur : Array Value} {e : TypeId} {sz : Nat} {α : Type} {f : α → V} {l : List α} {cc : Nat} (hc : l.length ≤ cc) (hm : cc ≤ maxLen) (hl : l.length ≤ LIM) (hcap : cur.size = cc * sz) (h2 : ∀ u, u ∈ cur → u.oneCell' = true)
    (h3 : ∀ (i : Nat) p, l[i]? = some p → (cells (f p)).length = sz ∧ ∀ (j : Nat) (y : V), (cells (f p))[j]? = some y → ∃ cv, cur[i * sz + j]? = some cv ∧ RD w F cv y) {w0 : World} (hw0 : w0.heap = w.heap ∧ w0.os = w.os ∧ w0.tape = w.tape ∧ OutLe w w0) :
    ∃ F' β', Rl P c z F' β' (up1 s (d, true, .arr false e sz f l)) tm { w0 with heap := w0.heap.push (.cells cur e) } ∧
      RA { w0 with heap := w0.heap.push (.cells cur e) } F' β' (up1 s (d, true, .arr false e sz f l)).o (.slice (some ⟨w.heap.size, 0, none⟩) l.length cc) (.osl d) := by
  obtain ⟨hw1, hw2, hw3, hw4⟩ := hw0
  let w' : World := { w0 with heap := w0.heap.push (.cells cur e) }
  let F' : Nat → Prop := fun b => F b ∨ b = w.heap.size
  have hk : ∀ b, b < w.heap.size → w'.heap[b]? = w.heap[b]? := fun b hb => by simp only [w', hw1]; exact heap_push w _ b hb
  have hF2 : ∀ b, b < w.heap.size → F' b → F b := fun b hb h => h.resolve_right (by omega)
  have hsz : w.heap.size ≤ w'.heap.size := by simp [w', hw1]
  have hd' := hd_of (w := w) (w' := w') (F := F) (F' := F') (fun b hb _ => hk b hb) hF2 hsz
  have hnew : w'.heap[w.heap.size]? = some (.cells cur e (0, 0)) := by simp [w', hw1]
  have hR := hr.anew (w' := w') (F' := F') (X := d) (nb := some w.heap.size) (ent := .arr false e sz f l) hd (fun b hb _ => hk b hb) hw2 hw3 ⟨hw4.out, hw4.drawn⟩ hsz (fun b h => .inl h) hF2
    (fun b h => by rcases h with h | h; (· have := hr.Flt b h; simp [w', hw1]; omega); (· simp [w', h, hw1])) (fun b hb => by cases hb; exact .inl (Nat.le_refl _)) ?_
  · exact ⟨F', _, hR, .osl d w.heap.size (by simp) false e sz f l cc (by simp [up1, olook, Ent.sub]) hc hm hl cur hnew hcap⟩
  · refine .inr ⟨w.heap.size, cur, by simp, .inr rfl, hnew, by rw [hcap]; exact Nat.mul_le_mul_right _ hc, h2, fun i p hp => ⟨(h3 i p hp).1, fun j y hy => ?_⟩⟩
    obtain ⟨cv, k1, k2⟩ := (h3 i p hp).2 j y hy
    exact ⟨cv, k1, hd' _ _ k2⟩

/-- A list of no elements, as an own one. -/
theorem step_buildEmpty (ha : a.tmps = tm) (hr : Rl P c z F β s tm w) {t el : TypeId} {n : Nat} {parts : Array (Nat × Operand)} {ti : TI} {q1 q2 : Nat} {q3 : List V} {xs : List Operand} {d : Nat}
    (hop : op.op = .buildSlice t n parts) (ht : tlook c.T t = some ⟨.slice el, q1, q2, q3⟩) (hxs : xs.length = 0) (ho : inOrder 0 parts.toList = some xs) (hel : tlook c.T el = some ti) (hn : n = 0) (hd : d < 10000) {α : Type} (f : α → V)
    (hk : K ⟨.osl d, [], [(d, true, .arr false el ti.sz f [])]⟩) : StepTo P c z s tm w a op K := by
  subst hn
  have hxs := List.eq_nil_of_length_eq_zero hxs
  subst hxs
  have hp : parts = #[] := by
    have := inOrder_eq _ _ _ ho
    simpa using this
  have hu := slice_ty hr.tab ht
  obtain ⟨F', β', g1, g2⟩ := hr.newArr (d := d) (.inl hd) (cur := #[]) (e := el) (sz := ti.sz) (f := f) (l := []) (cc := 0) (Nat.le_refl _) (by simp [maxLen]) (by simp) (by simp) (by simp) (by simp) (w0 := w) ⟨rfl, rfl, rfl, rfl, Nat.le_refl _⟩
  refine StepTo.of_run (val := .slice (some ⟨w.heap.size, 0, none⟩) 0 0) ?_ hk g1 g2
  rw [hp] at hop
  simp only [execOp, hop, Sem.run_bind, List.map_toArray, List.map_nil]
  simp [Instr.buildSlice, run_underlying hu, sizeOf_run hr.tab hel, Instr.fill, newRow, Array.range_zero']

/-- A list of elements, as an own one. -/
theorem step_buildOwn (ha : a.tmps = tm) (hr : Rl P c z F β s tm w) {im : List (Nat × Bool)} (him : ∀ t b, (t, b) ∈ im → tm.getD t undef = .bool b) {t el : TypeId} {n : Nat} {parts : Array (Nat × Operand)} {ti : TI} {q1 q2 : Nat} {q3 : List V} {xs : List Operand} {d : Nat}
    (hop : op.op = .buildSlice t n parts) (ht : tlook c.T t = some ⟨.slice el, q1, q2, q3⟩) (ho : inOrder 0 parts.toList = some xs) (hel : tlook c.T el = some ti)
    (hn : xs.length = n) (hn0 : n ≠ 0) (hids : oslIdsl (xs.map fun x => res s.e im (evalO c s.e x)) = [])
    (hd : isDatal (xs.map fun x => res s.e im (evalO c s.e x)) = true) (hlen : allLen ti.sz (xs.map fun x => res s.e im (evalO c s.e x)) = true) (hbig : n * ti.sz ≤ 16777216) (hpos : 0 < ti.sz) (hdd : d < 10000)
    {α : Type} {f : α → V} {l : List α} (hl : (xs.map fun x => res s.e im (evalO c s.e x)).length = l.length) (hc : ∀ (i : Nat) (e : V) (p : α), (xs.map fun x => res s.e im (evalO c s.e x))[i]? = some e → l[i]? = some p → VEq e (f p))
    (hk : K ⟨.osl d, [], [(d, true, .arr false el ti.sz f l)]⟩) : StepTo P c z s tm w a op K := by
  generalize hvs' : (xs.map fun x => res s.e im (evalO c s.e x)) = vs' at *
  have k2 : ∀ (i : Nat) (u : Value) (x : V), (xs.map a.eval)[i]? = some u → vs'[i]? = some x → RA w F β s.o u x := fun i u x hi hx => by
    rw [← hvs', List.getElem?_map, Option.map_eq_some_iff] at hx
    rw [List.getElem?_map, Option.map_eq_some_iff] at hi
    obtain ⟨y, hy, rfl⟩ := hi
    obtain ⟨y', hy', rfl⟩ := hx
    rw [hy] at hy'; cases hy'
    exact res_ra ha hr.toRel him y
  have hvl : vs'.length = n := by rw [← hvs']; simpa using hn
  have hln : l.length = n := by omega
  obtain ⟨info, zv, desc, t1, t2, t3, t4, t5, t6, t7, t8, t9, t10⟩ := hr.tab.ok el ti hel
  have hcell : ∀ (i : Nat) (u : Value) (x : V), (xs.map a.eval)[i]? = some u → vs'[i]? = some x → u.cells.size = ti.sz ∧ (∀ q, q ∈ u.cells → q.oneCell' = true) ∧ (cells x).length = ti.sz ∧ ∀ (j : Nat) (q : Value) (y : V), u.cells[j]? = some q → (cells x)[j]? = some y → RD w F q y := by
    intro i u x hi hx
    obtain ⟨cs, hc1, hc2⟩ := allLen_iff _ _ hlen x (List.mem_of_getElem? hx)
    obtain ⟨m1, m2, m3⟩ := cellsX_ra (k2 i u x hi hx) hc1
    have hxd : isData x = true := (isDatal_iff _).1 hd x (List.mem_of_getElem? hx)
    rw [cellsX_cells hc1]
    refine ⟨m1.trans hc2, m2, hc2, fun j q y hq hy => (m3 j q y hq hy).data ?_⟩
    cases x <;> simp only [cellsX, Option.some.injEq, reduceCtorEq] at hc1 <;> subst hc1 <;> first
      | (simp only [isData, isDatal_iff] at hxd; exact hxd y (List.mem_of_getElem? hy))
      | (cases j with
         | zero => simp at hy; subst hy; exact hxd
         | succ j => simp at hy)
  have hpl : (parts.map fun (i, x) => (i, a.eval x)).toList = ((xs.map a.eval).zipIdx 0).map fun x => (x.2, x.1) := by
    rw [Array.toList_map, inOrder_eq _ _ _ ho, List.zipIdx_map, List.map_map, List.map_map]
    rfl
  have hu := slice_ty hr.tab ht
  have hnn : n ≤ 16777216 := by
    have : n * 1 ≤ n * ti.sz := Nat.mul_le_mul_left _ hpos
    omega
  have hz : ¬ n * ti.sz = 0 := fun h => by
    rcases Nat.mul_eq_zero.1 h with h | h <;> omega
  have hsz0 : ((Array.range (n * info.size)).map (zv.cells[· % zv.cells.size]!)).size = n * ti.sz := by simp [t4]
  obtain ⟨r, r1, r2, r3⟩ := Great.fill_dense hpos (xs.map a.eval) 0 ((Array.range (n * info.size)).map (zv.cells[· % zv.cells.size]!)) (fun v hv => by
      obtain ⟨i, hi⟩ := mem_of_getElem? hv
      have hlt : i < vs'.length := by rw [hvl, ← hn]; have := (List.getElem?_eq_some_iff.1 hi).1; simpa using this
      exact (hcell i v _ hi (List.getElem?_eq_getElem hlt)).1) (by simp [hn, t4])
  rw [hsz0] at r2
  have hrun : (Instr.buildSlice t n (parts.map fun (i, x) => (i, a.eval x))).run P w = .ok (.slice (some ⟨w.heap.size, 0, none⟩) n n) { w with heap := w.heap.push (.cells r el) } := by
    have hb' : ¬ n * info.size > 2 ^ 24 := by rw [t4]; omega
    have := run_buildSlice (P := P) w t el n (parts.map fun (i, x) => (i, a.eval x)) r info zv hu t1 t6 hb' (by rw [t4]; exact hz) (by rw [hpl, t4]; rw [t4] at r1; exact r1)
    rw [this]; rfl
  have hget : ∀ (i j : Nat), i < n → j < ti.sz → ∃ (u : Value) (e : V), (xs.map a.eval)[i]? = some u ∧ vs'[i]? = some e ∧ r[i * ti.sz + j]? = u.cells[j]? := fun i j hi hj => by
    have h1 : i < (xs.map a.eval).length := by simp only [List.length_map]; omega
    have h2 : i < vs'.length := by omega
    refine ⟨_, _, List.getElem?_eq_getElem h1, List.getElem?_eq_getElem h2, ?_⟩
    rw [r3]
    have hd1 : (i * ti.sz + j) / ti.sz = i := by
      rw [Nat.mul_comm, Nat.mul_add_div hpos, Nat.div_eq_of_lt hj]; rfl
    have hd2 : (i * ti.sz + j) % ti.sz = j := by
      rw [Nat.mul_comm, Nat.mul_add_mod, Nat.mod_eq_of_lt hj]
    have hle : i * ti.sz + j < (0 + (xs.map a.eval).length) * ti.sz := by
      have : (i + 1) * ti.sz ≤ xs.length * ti.sz := Nat.mul_le_mul_right _ (by omega)
      rw [Nat.add_mul, Nat.one_mul] at this
      simp only [List.length_map, Nat.zero_add]; omega
    rw [if_pos ⟨by omega, hle⟩, hd1, hd2, Nat.sub_zero, List.getElem?_eq_getElem h1]
    rfl
  obtain ⟨F', β', g1, g2⟩ := hr.newArr (d := d) (.inl hdd) (cur := r) (e := el) (sz := ti.sz) (f := f) (l := l) (cc := n) (by omega) (by simp only [maxLen]; omega) (by unfold LIM; omega) r2
    (fun u hu' => by
      obtain ⟨k, hk', rfl⟩ := Array.mem_iff_getElem.1 hu'
      have hkn : k < n * ti.sz := by omega
      have hkd : k / ti.sz < n := (Nat.div_lt_iff_lt_mul hpos).2 hkn
      obtain ⟨u, e, m1, m2, m3⟩ := hget (k / ti.sz) (k % ti.sz) hkd (Nat.mod_lt _ hpos)
      have hke : k / ti.sz * ti.sz + k % ti.sz = k := by rw [Nat.mul_comm]; exact Nat.div_add_mod k ti.sz
      rw [hke, Array.getElem?_eq_getElem hk'] at m3
      exact (hcell _ u e m1 m2).2.1 _ (Array.mem_of_getElem? m3.symm))
    (fun i p hp => by
      have hi : i < n := by have := (List.getElem?_eq_some_iff.1 hp).1; omega
      obtain ⟨u0, e0, m1, m2, _⟩ := hget i 0 hi hpos
      obtain ⟨c1, c2, c3, c4⟩ := hcell i u0 e0 m1 m2
      have hq := hc i e0 p m2 hp
      refine ⟨by rw [← hq.1]; exact c3, fun j y' hj => ?_⟩
      have hjs : j < ti.sz := by rw [← c3, hq.1]; exact (List.getElem?_eq_some_iff.1 hj).1
      obtain ⟨q, hq1, hq2⟩ := CEqL.get hq hj
      obtain ⟨u, e, m1', m2', m3⟩ := hget i j hi hjs
      rw [m1] at m1'; cases m1'
      have hjc : j < u0.cells.size := by omega
      rw [Array.getElem?_eq_getElem hjc] at m3
      exact ⟨_, m3, hq2 _ _ _ (c4 j _ q (Array.getElem?_eq_getElem hjc) hq1)⟩)
    (w0 := w) ⟨rfl, rfl, rfl, rfl, Nat.le_refl _⟩
  rw [hln] at g2
  refine StepTo.of_run (val := .slice (some ⟨w.heap.size, 0, none⟩) n n) ?_ hk g1 g2
  simp only [execOp, hop, Sem.run_bind, hrun, Result.andThen_ok, Sem.run_pure]

theorem madeCells_get {zc : Array Value} {sz n k : Nat} (hz : zc.size = sz) (hs : 0 < sz) (hk : k < n * sz) : (madeCells zc (n * sz))[k]? = zc[k % sz]? := by
  have : k % sz < zc.size := by rw [hz]; exact Nat.mod_lt _ hs
  simp [madeCells, hk, hz]
  rw [Array.getElem?_eq_getElem this, getElem!_pos zc (k % sz) this]

theorem step_make (ha : a.tmps = tm) (hr : Rl P c z F β s tm w) {im : List (Nat × Bool)} (him : ∀ t b, (t, b) ∈ im → tm.getD t undef = .bool b) {t el : TypeId} {x y : Operand} {d : Nat} {ti : TI} {q1 q2 : Nat} {q3 : List V} {n : IE}
    (hop : op.op = .makeSlice t x y) (ht : tlook c.T t = some ⟨.slice el, q1, q2, q3⟩) (hn : ieOf (res s.e im (evalO c s.e x)) = some n) (hxy : a.eval y = a.eval x ∨ ∃ k k' i, a.eval x = .int k i ∧ a.eval y = .int k' i) (hel : tlook c.T el = some ti) (hd : d < 10000)
    (hk : MakeP ti.bytes n ti.zero (fun _ f l => K ⟨.osl d, [], [(d, true, .arr false el ti.sz f l)]⟩)) (hpos : 0 < ti.sz) : StepTo P c z s tm w a op K := by
  obtain ⟨f, x0, m, hm, hb, hlim, hz, hk⟩ := hk
  obtain ⟨k, hx, _⟩ := ieOf_ra (res_ra ha hr.toRel him x) hn
  rw [hm] at hx
  obtain ⟨k', hy⟩ : ∃ k', a.eval y = .int k' (m : Int) := by
    rcases hxy with h | ⟨k1, k2, i, h1, h2⟩
    · exact ⟨k, h.trans hx⟩
    · rw [hx] at h1; cases h1; exact ⟨k2, h2⟩
  obtain ⟨info, zv, desc, t1, t2, t3, t4, t5, t6, t7, t8, t9, t10⟩ := hr.tab.ok el ti hel
  have hu := slice_ty hr.tab ht
  have hb' : (info.bytes : Int) * (m : Int) ≤ 281474976710656 := by
    rw [t5]
    have h : ((ti.bytes * m : Nat) : Int) ≤ 281474976710656 := by rw [Nat.mul_comm]; omega
    rwa [Int.natCast_mul] at h
  have hrun := run_make (P := P) w t el info zv hu t1 t6 k k' (m : Int) (m : Int) (by omega) (Int.le_refl _) hb' (by unfold LIM at hlim; omega)
  simp only [Int.toNat_natCast] at hrun
  have hzsz : zv.cells.size = ti.sz := t8
  have hlen : (cells (f x0)).length = ti.sz := by rw [← hz.1, ← t7]; simp [hzsz]
  obtain ⟨F', β', g1, g2⟩ := hr.newArr (d := d) (.inl hd) (cur := madeCells zv.cells (m * info.size)) (e := el) (sz := ti.sz) (f := f) (l := List.replicate m x0) (cc := m) (by simp) (by unfold LIM at hlim; simp only [maxLen]; omega) (by simpa using hlim) (by rw [size_madeCells, t4])
    (fun u hu' => by
      obtain ⟨i, hi, rfl⟩ := Array.mem_iff_getElem.1 hu'
      have h1 : i < m * ti.sz := by rw [size_madeCells, t4] at hi; exact hi
      have h2 := madeCells_get (zc := zv.cells) hzsz hpos h1
      have h3 : (madeCells zv.cells (m * info.size))[i]? = some (madeCells zv.cells (m * info.size))[i] := Array.getElem?_eq_getElem hi
      rw [← t4] at h2
      rw [h3] at h2
      exact t9 _ (Array.mem_of_getElem? h2.symm))
    (fun i p hp => by
      have hpx : p = x0 := by
        have := List.mem_of_getElem? hp
        exact (List.mem_replicate.1 this).2
      have hi : i < m := by have := (List.getElem?_eq_some_iff.1 hp).1; simpa using this
      subst hpx
      refine ⟨hlen, fun j y' hj => ?_⟩
      have hjs : j < ti.sz := by rw [← hlen]; exact (List.getElem?_eq_some_iff.1 hj).1
      have hlt : i * ti.sz + j < m * ti.sz := by
        have : (i + 1) * ti.sz ≤ m * ti.sz := Nat.mul_le_mul_right _ hi
        rw [Nat.add_mul, Nat.one_mul] at this; omega
      have h2 := madeCells_get (zc := zv.cells) hzsz hpos hlt
      rw [Nat.mul_comm i, Nat.mul_add_mod, Nat.mod_eq_of_lt hjs] at h2
      have hjz : j < zv.cells.size := by omega
      refine ⟨zv.cells[j], by rw [t4, Nat.mul_comm i, h2]; exact Array.getElem?_eq_getElem hjz, ?_⟩
      obtain ⟨q, hq1, hq2⟩ := hz.get hj
      rw [← t7, List.getElem?_map, Option.map_eq_some_iff] at hq1
      obtain ⟨u, hu1, rfl⟩ := hq1
      have : zv.cells.toList[j]? = some zv.cells[j] := by simp [hjz]
      rw [this] at hu1; cases hu1
      exact hq2 _ _ _ (constV_rd w F _))
    (w0 := w) ⟨rfl, rfl, rfl, rfl, Nat.le_refl _⟩
  refine StepTo.of_run ?_ (hk _ rfl) g1 g2
  simp only [execOp, hop, Sem.run_bind, hx, hy, hrun, Result.andThen_ok, Sem.run_pure, List.length_replicate]
  rfl

theorem fillX_run {im : List (Nat × Bool)} (hres : ∀ x, RA w F β s.o (a.eval x) (res s.e im (evalO c s.e x))) {place place' : Nat → Option (Nat × Nat)} (hpp : ∀ i q, place i = some q → place' i = some q) : ∀ (parts : List (Nat × Operand)) (cv : Array Value) (cs : List V) (cs' : List V),
    cv.size = cs.length → (∀ u, u ∈ cv → u.oneCell' = true) → (∀ (i : Nat) (u : Value) (y : V), cv[i]? = some u → cs[i]? = some y → RA w F β s.o u y) → fillX c s.e im place parts cs = some cs' →
    ∃ cv', Instr.fill place' cv (parts.map fun (i, x) => (i, a.eval x)) = some cv' ∧ cv'.size = cs'.length ∧ (∀ u, u ∈ cv' → u.oneCell' = true) ∧ ∀ (i : Nat) (u : Value) (y : V), cv'[i]? = some u → cs'[i]? = some y → RA w F β s.o u y
  | [], cv, cs, cs', h1, h2, h3, h => by
    simp only [fillX, Option.some.injEq] at h; subst h
    exact ⟨cv, rfl, h1, h2, h3⟩
  | (i, x) :: r, cv, cs, cs', h1, h2, h3, h => by
    simp only [fillX] at h
    split at h
    · rename_i off sz vs hp hv
      obtain ⟨k1, k2, k3⟩ := cellsX_ra (hres x) hv
      cases hb : (eqN vs.length sz) && (leN (off + sz) cs.length) with
      | false => rw [hb] at h; cases h
      | true =>
        rw [hb] at h
        simp only [cond_true] at h
        simp only [Bool.and_eq_true] at hb
        have hb1 := eqN_true hb.1
        have hb2 := leN_true hb.2
        obtain ⟨g1, g2⟩ := Great.foldl_set off (a.eval x).cells.toList 0 cv
        simp only [Nat.add_zero] at g2
        have hsz : (a.eval x).cells.size = sz := k1.trans hb1
        have hget : ∀ k : Nat, (((a.eval x).cells.toList.zipIdx 0).foldl (fun cs (y : Value × Nat) => cs.setIfInBounds (off + y.2) y.1) cv)[k]? = if k < off then cv[k]? else if k < off + sz then (a.eval x).cells[k - off]? else cv[k]? := fun k => by
          rw [g2 k]
          simp only [Array.length_toList, hsz]
          by_cases c1 : k < off
          · rw [if_neg (by omega), if_pos c1]
          · by_cases c2 : k < off + sz
            · rw [if_pos ⟨by omega, by omega, by omega⟩, if_neg c1, if_pos c2]; simp
            · rw [if_neg (by omega), if_neg c1, if_neg c2]
        obtain ⟨cv', m1, m2, m3, m4⟩ := fillX_run hres hpp r (((a.eval x).cells.toList.zipIdx 0).foldl (fun cs (y : Value × Nat) => cs.setIfInBounds (off + y.2) y.1) cv) (setAt cs off vs) cs'
          (by rw [g1, setAt_len, h1]) (fun u hu => by
            obtain ⟨k, hk, rfl⟩ := Array.mem_iff_getElem.1 hu
            have := hget k
            rw [Array.getElem?_eq_getElem hk] at this
            split at this
            · exact h2 _ (Array.mem_of_getElem? this.symm)
            · split at this
              · exact k2 _ (Array.mem_of_getElem? this.symm)
              · exact h2 _ (Array.mem_of_getElem? this.symm))
          (fun k u y hu hy => by
            rw [hget k] at hu
            rw [setAt_get _ _ _ _ (by omega)] at hy
            by_cases c1 : k < off
            · simp only [c1, if_true] at hu hy
              exact h3 k u y hu hy
            · by_cases c2 : k < off + sz
              · simp only [c1, c2, hb1, if_true, if_false] at hu hy
                exact k3 (k - off) u y hu hy
              · simp only [c1, c2, hb1, if_false] at hu hy
                exact h3 k u y hu hy) h
        refine ⟨cv', ?_, m2, m3, m4⟩
        simp only [List.map_cons]
        unfold Instr.fill
        simp only [hpp _ _ hp]
        rw [if_neg (by simp [hsz]; omega)]
        rw [← m1]
        congr 1
        rw [← Array.foldl_toList, Array.toList_zipIdx]
    · cases h

end
end Go.Vg
