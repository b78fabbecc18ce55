/- The conditions suffice: make, build, append, calls. -/
import Derived.Test.YtnapnedfhimikaaDoorVgL
set_option maxRecDepth 4000
set_option linter.all false
set_option linter.unusedVariables false
set_option linter.unusedSimpArgs false
namespace Go.Vg
open Go

section
variable {P : Program} {c : Ctx} {z : From} {F : Nat → Prop} {β : Bt} {s : St} {tm : Array Value} {w : World} {a : Act} {op : Oper} {K : Out → Prop}

/-- A new own list. -/
theorem Rl.newArr (hr : Rl P c z F β s tm w) {d : Nat} (hd : d < 10000 ∨ (∀ ent, olook z.o d = some ent → pinned ent = false)) {cur : Array Value} {e : TypeId} {sz : Nat} {α : Type} {f : α → V} {l : List α} {cc : Nat} (hc : l.length ≤ cc) (hm : cc ≤ maxLen) (hl : l.length ≤ LIM) (hcap : cur.size = cc * sz) (h2 : ∀ u, u ∈ cur → u.oneCell' = true)
    (h3 : ∀ (i : Nat) p, l[i]? = some p → (cells (f p)).length = sz ∧ ∀ (j : Nat) (y : V), (cells (f p))[j]? = some y → ∃ cv, cur[i * sz + j]? = some cv ∧ RD w F cv y) {w0 : World} (hw0 : w0.heap = w.heap ∧ w0.os = w.os ∧ w0.tape = w.tape ∧ OutLe w w0) :
    ∃ F' β', Rl P c z F' β' (up1 s (d, true, .arr false e sz f l)) tm { w0 with heap := w0.heap.push (.cells cur e) } ∧
      RA { w0 with heap := w0.heap.push (.cells cur e) } F' β' (up1 s (d, true, .arr false e sz f l)).o (.slice (some ⟨w.heap.size, 0, none⟩) l.length cc) (.osl d) := by
  obtain ⟨hw1, hw2, hw3, hw4⟩ := hw0
  let w' : World := { w0 with heap := w0.heap.push (.cells cur e) }
  let F' : Nat → Prop := fun b => F b ∨ b = w.heap.size
  have hk : ∀ b, b < w.heap.size → w'.heap[b]? = w.heap[b]? := fun b hb => by simp only [w', hw1]; exact heap_push w _ b hb
  have hF2 : ∀ b, b < w.heap.size → F' b → F b := fun b hb h => h.resolve_right (by omega)
  have hsz : w.heap.size ≤ w'.heap.size := by simp [w', hw1]
  have hd' := hd_of (w := w) (w' := w') (F := F) (F' := F') (fun b hb _ => hk b hb) hF2 hsz
  have hnew : w'.heap[w.heap.size]? = some (.cells cur e (0, 0)) := by simp [w', hw1]
  have hR := hr.anew (w' := w') (F' := F') (X := d) (nb := some w.heap.size) (ent := .arr false e sz f l) hd (fun b hb _ => hk b hb) hw2 hw3 ⟨hw4.out, hw4.drawn⟩ hsz (fun b h => .inl h) hF2
    (fun b h => by rcases h with h | h; (· have := hr.Flt b h; simp [w', hw1]; omega); (· simp [w', h, hw1])) (fun b hb => by cases hb; exact .inl (Nat.le_refl _)) ?_
  · exact ⟨F', _, hR, .osl d w.heap.size (by simp) false e sz f l cc (by simp [up1, olook, Ent.sub]) hc hm hl cur hnew hcap⟩
  · refine .inr ⟨w.heap.size, cur, by simp, .inr rfl, hnew, by rw [hcap]; exact Nat.mul_le_mul_right _ hc, h2, fun i p hp => ⟨(h3 i p hp).1, fun j y hy => ?_⟩⟩
    obtain ⟨cv, k1, k2⟩ := (h3 i p hp).2 j y hy
    exact ⟨cv, k1, hd' _ _ k2⟩

/-- A list of no elements, as an own one. -/
theorem step_buildEmpty (ha : a.tmps = tm) (hr : Rl P c z F β s tm w) {t el : TypeId} {n : Nat} {parts : Array (Nat × Operand)} {ti : TI} {q1 q2 : Nat} {q3 : List V} {xs : List Operand} {d : Nat}
    (hop : op.op = .buildSlice t n parts) (ht : tlook c.T t = some ⟨.slice el, q1, q2, q3⟩) (hxs : xs.length = 0) (ho : inOrder 0 parts.toList = some xs) (hel : tlook c.T el = some ti) (hn : n = 0) (hd : d < 10000) {α : Type} (f : α → V)
    (hk : K ⟨.osl d, [], [(d, true, .arr false el ti.sz f [])]⟩) : StepTo P c z s tm w a op K := by
  subst hn
  have hxs := List.eq_nil_of_length_eq_zero hxs
  subst hxs
  have hp : parts = #[] := by
    have := inOrder_eq _ _ _ ho
    simpa using this
  have hu := slice_ty hr.tab ht
  obtain ⟨F', β', g1, g2⟩ := hr.newArr (d := d) (.inl hd) (cur := #[]) (e := el) (sz := ti.sz) (f := f) (l := []) (cc := 0) (Nat.le_refl _) (by simp [maxLen]) (by simp) (by simp) (by simp) (by simp) (w0 := w) ⟨rfl, rfl, rfl, rfl, Nat.le_refl _⟩
  refine StepTo.of_run (val := .slice (some ⟨w.heap.size, 0, none⟩) 0 0) ?_ hk g1 g2
  rw [hp] at hop
  simp only [execOp, hop, Sem.run_bind, List.map_toArray, List.map_nil]
  simp [Instr.buildSlice, run_underlying hu, sizeOf_run hr.tab hel, Instr.fill, newRow, Array.range_zero']

theorem madeCells_get {zc : Array Value} {sz n k : Nat} (hz : zc.size = sz) (hs : 0 < sz) (hk : k < n * sz) : (madeCells zc (n * sz))[k]? = zc[k % sz]? := by
  have : k % sz < zc.size := by rw [hz]; exact Nat.mod_lt _ hs
  simp [madeCells, hk, hz]
  rw [Array.getElem?_eq_getElem this, getElem!_pos zc (k % sz) this]

theorem step_make (ha : a.tmps = tm) (hr : Rl P c z F β s tm w) {im : List (Nat × Bool)} (him : ∀ t b, (t, b) ∈ im → tm.getD t undef = .bool b) {t el : TypeId} {x y : Operand} {d : Nat} {ti : TI} {q1 q2 : Nat} {q3 : List V} {n : IE}
    (hop : op.op = .makeSlice t x y) (ht : tlook c.T t = some ⟨.slice el, q1, q2, q3⟩) (hn : ieOf (res s.e im (evalO c s.e x)) = some n) (hxy : a.eval y = a.eval x ∨ ∃ k k' i, a.eval x = .int k i ∧ a.eval y = .int k' i) (hel : tlook c.T el = some ti) (hd : d < 10000)
    (hk : MakeP ti.bytes n ti.zero (fun _ f l => K ⟨.osl d, [], [(d, true, .arr false el ti.sz f l)]⟩)) (hpos : 0 < ti.sz) : StepTo P c z s tm w a op K := by
  obtain ⟨f, x0, m, hm, hb, hlim, hz, hk⟩ := hk
  obtain ⟨k, hx, _⟩ := ieOf_ra (res_ra ha hr.toRel him x) hn
  rw [hm] at hx
  obtain ⟨k', hy⟩ : ∃ k', a.eval y = .int k' (m : Int) := by
    rcases hxy with h | ⟨k1, k2, i, h1, h2⟩
    · exact ⟨k, h.trans hx⟩
    · rw [hx] at h1; cases h1; exact ⟨k2, h2⟩
  obtain ⟨info, zv, desc, t1, t2, t3, t4, t5, t6, t7, t8, t9, t10⟩ := hr.tab.ok el ti hel
  have hu := slice_ty hr.tab ht
  have hb' : (info.bytes : Int) * (m : Int) ≤ 281474976710656 := by
    rw [t5]
    have h : ((ti.bytes * m : Nat) : Int) ≤ 281474976710656 := by rw [Nat.mul_comm]; omega
    rwa [Int.natCast_mul] at h
  have hrun := run_make (P := P) w t el info zv hu t1 t6 k k' (m : Int) (m : Int) (by omega) (Int.le_refl _) hb' (by unfold LIM at hlim; omega)
  simp only [Int.toNat_natCast] at hrun
  have hzsz : zv.cells.size = ti.sz := t8
  have hlen : (cells (f x0)).length = ti.sz := by rw [← hz.1, ← t7]; simp [hzsz]
  obtain ⟨F', β', g1, g2⟩ := hr.newArr (d := d) (.inl hd) (cur := madeCells zv.cells (m * info.size)) (e := el) (sz := ti.sz) (f := f) (l := List.replicate m x0) (cc := m) (by simp) (by unfold LIM at hlim; simp only [maxLen]; omega) (by simpa using hlim) (by rw [size_madeCells, t4])
    (fun u hu' => by
      obtain ⟨i, hi, rfl⟩ := Array.mem_iff_getElem.1 hu'
      have h1 : i < m * ti.sz := by rw [size_madeCells, t4] at hi; exact hi
      have h2 := madeCells_get (zc := zv.cells) hzsz hpos h1
      have h3 : (madeCells zv.cells (m * info.size))[i]? = some (madeCells zv.cells (m * info.size))[i] := Array.getElem?_eq_getElem hi
      rw [← t4] at h2
      rw [h3] at h2
      exact t9 _ (Array.mem_of_getElem? h2.symm))
    (fun i p hp => by
      have hpx : p = x0 := by
        have := List.mem_of_getElem? hp
        exact (List.mem_replicate.1 this).2
      have hi : i < m := by have := (List.getElem?_eq_some_iff.1 hp).1; simpa using this
      subst hpx
      refine ⟨hlen, fun j y' hj => ?_⟩
      have hjs : j < ti.sz := by rw [← hlen]; exact (List.getElem?_eq_some_iff.1 hj).1
      have hlt : i * ti.sz + j < m * ti.sz := by
        have : (i + 1) * ti.sz ≤ m * ti.sz := Nat.mul_le_mul_right _ hi
        rw [Nat.add_mul, Nat.one_mul] at this; omega
      have h2 := madeCells_get (zc := zv.cells) hzsz hpos hlt
      rw [Nat.mul_comm i, Nat.mul_add_mod, Nat.mod_eq_of_lt hjs] at h2
      have hjz : j < zv.cells.size := by omega
      refine ⟨zv.cells[j], by rw [t4, Nat.mul_comm i, h2]; exact Array.getElem?_eq_getElem hjz, ?_⟩
      obtain ⟨q, hq1, hq2⟩ := hz.get hj
      rw [← t7, List.getElem?_map, Option.map_eq_some_iff] at hq1
      obtain ⟨u, hu1, rfl⟩ := hq1
      have : zv.cells.toList[j]? = some zv.cells[j] := by simp [hjz]
      rw [this] at hu1; cases hu1
      exact hq2 _ _ _ (constV_rd w F _))
    (w0 := w) ⟨rfl, rfl, rfl, rfl, Nat.le_refl _⟩
  refine StepTo.of_run ?_ (hk _ rfl) g1 g2
  simp only [execOp, hop, Sem.run_bind, hx, hy, hrun, Result.andThen_ok, Sem.run_pure, List.length_replicate]
  rfl

theorem fillX_run {im : List (Nat × Bool)} (hres : ∀ x, RA w F β s.o (a.eval x) (res s.e im (evalO c s.e x))) {place place' : Nat → Option (Nat × Nat)} (hpp : ∀ i q, place i = some q → place' i = some q) : ∀ (parts : List (Nat × Operand)) (cv : Array Value) (cs : List V) (cs' : List V),
    cv.size = cs.length → (∀ u, u ∈ cv → u.oneCell' = true) → (∀ (i : Nat) (u : Value) (y : V), cv[i]? = some u → cs[i]? = some y → RA w F β s.o u y) → fillX c s.e im place parts cs = some cs' →
    ∃ cv', Instr.fill place' cv (parts.map fun (i, x) => (i, a.eval x)) = some cv' ∧ cv'.size = cs'.length ∧ (∀ u, u ∈ cv' → u.oneCell' = true) ∧ ∀ (i : Nat) (u : Value) (y : V), cv'[i]? = some u → cs'[i]? = some y → RA w F β s.o u y
  | [], cv, cs, cs', h1, h2, h3, h => by
    simp only [fillX, Option.some.injEq] at h; subst h
    exact ⟨cv, rfl, h1, h2, h3⟩
  | (i, x) :: r, cv, cs, cs', h1, h2, h3, h => by
    simp only [fillX] at h
    split at h
    · rename_i off sz vs hp hv
      obtain ⟨k1, k2, k3⟩ := cellsX_ra (hres x) hv
      cases hb : (eqN vs.length sz) && (leN (off + sz) cs.length) with
      | false => rw [hb] at h; cases h
      | true =>
        rw [hb] at h
        simp only [cond_true] at h
        simp only [Bool.and_eq_true] at hb
        have hb1 := eqN_true hb.1
        have hb2 := leN_true hb.2
        obtain ⟨g1, g2⟩ := Great.foldl_set off (a.eval x).cells.toList 0 cv
        simp only [Nat.add_zero] at g2
        have hsz : (a.eval x).cells.size = sz := k1.trans hb1
        have hget : ∀ k : Nat, (((a.eval x).cells.toList.zipIdx 0).foldl (fun cs (y : Value × Nat) => cs.setIfInBounds (off + y.2) y.1) cv)[k]? = if k < off then cv[k]? else if k < off + sz then (a.eval x).cells[k - off]? else cv[k]? := fun k => by
          rw [g2 k]
          simp only [Array.length_toList, hsz]
          by_cases c1 : k < off
          · rw [if_neg (by omega), if_pos c1]
          · by_cases c2 : k < off + sz
            · rw [if_pos ⟨by omega, by omega, by omega⟩, if_neg c1, if_pos c2]; simp
            · rw [if_neg (by omega), if_neg c1, if_neg c2]
        obtain ⟨cv', m1, m2, m3, m4⟩ := fillX_run hres hpp r (((a.eval x).cells.toList.zipIdx 0).foldl (fun cs (y : Value × Nat) => cs.setIfInBounds (off + y.2) y.1) cv) (setAt cs off vs) cs'
          (by rw [g1, setAt_len, h1]) (fun u hu => by
            obtain ⟨k, hk, rfl⟩ := Array.mem_iff_getElem.1 hu
            have := hget k
            rw [Array.getElem?_eq_getElem hk] at this
            split at this
            · exact h2 _ (Array.mem_of_getElem? this.symm)
            · split at this
              · exact k2 _ (Array.mem_of_getElem? this.symm)
              · exact h2 _ (Array.mem_of_getElem? this.symm))
          (fun k u y hu hy => by
            rw [hget k] at hu
            rw [setAt_get _ _ _ _ (by omega)] at hy
            by_cases c1 : k < off
            · simp only [c1, if_true] at hu hy
              exact h3 k u y hu hy
            · by_cases c2 : k < off + sz
              · simp only [c1, c2, hb1, if_true, if_false] at hu hy
                exact k3 (k - off) u y hu hy
              · simp only [c1, c2, hb1, if_false] at hu hy
                exact h3 k u y hu hy) h
        refine ⟨cv', ?_, m2, m3, m4⟩
        simp only [List.map_cons]
        unfold Instr.fill
        simp only [hpp _ _ hp]
        rw [if_neg (by simp [hsz]; omega)]
        rw [← m1]
        congr 1
        rw [← Array.foldl_toList, Array.toList_zipIdx]
    · cases h

end
end Go.Vg
