/- The conditions suffice: making and appending. -/
import Derived.Test.YtnapnedfhimikaaDoorVgK
import Derived.Great.FillDense
import Derived.Laws.MakeOwn
set_option maxRecDepth 4000
set_option linter.all false
set_option linter.unusedVariables false
set_option linter.unusedSimpArgs false
namespace Go.Vg
open Go

section
variable {P : Program} {c : Ctx} {z : From} {F : Nat → Prop} {β : Bt} {s : St} {tm : Array Value} {w : World} {a : Act} {op : Oper} {K : Out → Prop}

/-- A new block that is data from the start. -/
theorem Rl.newData (hr : Rl P c z F β s tm w) (cv : Array Value) (t : TypeId) : Rl P c z F β s tm { w with heap := w.heap.push (.cells cv t) } ∧
    (∀ v x, RD w F v x → RD { w with heap := w.heap.push (.cells cv t) } F v x) ∧ ¬ F w.heap.size := by
  obtain ⟨h1, h2, _⟩ := hr.world (w' := { w with heap := w.heap.push (.cells cv t) }) (F' := F) (heap_push w _) rfl rfl ⟨rfl, Nat.le_refl _⟩ (by simp) (fun _ h => h) (fun _ _ h => h) (fun b h => by have := hr.Flt b h; simp; omega)
  exact ⟨h1, h2, fun h => absurd (hr.Flt _ h) (by omega)⟩

theorem allLen_iff (sz : Nat) (l : List V) (h : allLen sz l = true) : ∀ x, x ∈ l → ∃ cs, cellsX x = some cs ∧ cs.length = sz := by
  induction l with
  | nil => simp
  | cons a r ih =>
    simp only [allLen] at h
    split at h
    · rename_i cs hc
      simp only [Bool.and_eq_true] at h
      intro x hx
      rcases List.mem_cons.1 hx with rfl | hx
      · exact ⟨cs, hc, eqN_true h.1⟩
      · exact ih h.2 x hx
    · cases h
theorem cellsX_cells {x : V} {cs : List V} (h : cellsX x = some cs) : cells x = cs := by
  cases x <;> simp only [cellsX, Option.some.injEq, reduceCtorEq] at h <;> subst h <;> rfl

theorem allLow_iff (l : List Nat) (h : allLow l = true) : ∀ x, x ∈ l → x < 10000 := by
  induction l with
  | nil => simp
  | cons a r ih =>
    simp only [allLow, Bool.and_eq_true] at h
    intro x hx
    rcases List.mem_cons.1 hx with rfl | hx
    · exact ltN_iff.1 h.1
    · exact ih h.2 x hx

theorem inOrder_eq : ∀ (l : List (Nat × Operand)) (n : Nat) (xs : List Operand), inOrder n l = some xs → l = (xs.zipIdx n).map fun x => (x.2, x.1)
  | [], n, xs, h => by simp only [inOrder, Option.some.injEq] at h; subst h; rfl
  | (i, x) :: r, n, xs, h => by
    simp only [inOrder] at h
    cases hb : (eqN i n) with
    | false => rw [hb] at h; cases h
    | true =>
      rw [hb] at h
      simp only [cond_true] at h
      split at h
      · rename_i l hl
        simp only [Option.some.injEq] at h
        subst h
        rw [inOrder_eq r (n + 1) l hl, eqN_true hb]
        simp [List.zipIdx_cons]
      · cases h

/-- Several own lists become data, and values that lean on them. -/
theorem Rl.freezes : ∀ (ids : List Nat) {F : Nat → Prop} {β : Bt} {s : St}, Rl P c z F β s tm w → (∀ x, x ∈ ids → x < 10000) →
    ∃ F' β', Rl P c z F' β' (frz ids s) tm w ∧ (∀ v x, RD w F v x → RD w F' v x) ∧ ∀ (vs : List V) (us : List Value), us.length = vs.length → (∀ (i : Nat) (u : Value) (x : V), us[i]? = some u → vs[i]? = some x → RA w F β s.o u x) →
      (subFz ids s vs).length = vs.length ∧ ∀ (i : Nat) (u : Value) (x : V), us[i]? = some u → (subFz ids s vs)[i]? = some x → RA w F' β' (frz ids s).o u x
  | [], F, β, s, hr, _ => ⟨F, β, hr, fun _ _ h => h, fun vs us _ h => ⟨rfl, h⟩⟩
  | id :: r, F, β, s, hr, hl => by
    obtain ⟨F1, β1, h1, h2, h3⟩ := hr.freeze (X := id) (hl id List.mem_cons_self)
    obtain ⟨F2, β2, g1, g2, g3⟩ := Rl.freezes r h1 (fun x hx => hl x (List.mem_cons_of_mem _ hx))
    refine ⟨F2, β2, g1, fun v x h => g2 _ _ (h2 _ _ h), fun vs us hlen h => ?_⟩
    simp only [subFz]
    split
    · rename_i q1 q2 sz α f l he
      rw [he] at h3
      obtain ⟨k1, k2⟩ := g3 (V.subl (sfrz id (.sl sz f l)) vs) us (by simpa [V.subl_eq] using hlen) (fun i u x hi hx => by
        rw [V.subl_eq, List.getElem?_map, Option.map_eq_some_iff] at hx
        obtain ⟨y, hy, rfl⟩ := hx
        exact h3 _ _ (h i u y hi hy))
      exact ⟨by rw [k1]; simp [V.subl_eq], k2⟩
    · rename_i hn
      have h3' : ∀ v x, RA w F β s.o v x → RA w F1 β1 (frz1 s id).o v x := fun v x hx => by
        have := h3 v x hx
        split at this
        · rename_i q1 q2 q3 α f l he; exact absurd he (hn _ _ _ _ _ _)
        · exact this
      exact g3 vs us hlen (fun i u x hi hx => h3' _ _ (h i u x hi hx))

theorem step_buildSlice (ha : a.tmps = tm) (hr : Rl P c z F β s tm w) {im : List (Nat × Bool)} (him : ∀ t b, (t, b) ∈ im → tm.getD t undef = .bool b) {t el : TypeId} {n : Nat} {parts : Array (Nat × Operand)} {ti : TI} {q1 q2 : Nat} {q3 : List V} {xs : List Operand}
    (hop : op.op = .buildSlice t n parts) (ht : tlook c.T t = some ⟨.slice el, q1, q2, q3⟩) (ho : inOrder 0 parts.toList = some xs) (hel : tlook c.T el = some ti)
    (hn : xs.length = n) (hd : isDatal (subFz (oslIdsl (xs.map fun x => res s.e im (evalO c s.e x))) s (xs.map fun x => res s.e im (evalO c s.e x))) = true)
    (hlen : allLen ti.sz (subFz (oslIdsl (xs.map fun x => res s.e im (evalO c s.e x))) s (xs.map fun x => res s.e im (evalO c s.e x))) = true)
    (hlow : allLow (oslIdsl (xs.map fun x => res s.e im (evalO c s.e x))) = true) (hbig : n * ti.sz ≤ 16777216) (hpos : 0 < ti.sz)
    (hk : K ⟨.sls ti.sz (subFz (oslIdsl (xs.map fun x => res s.e im (evalO c s.e x))) s (xs.map fun x => res s.e im (evalO c s.e x))), oslIdsl (xs.map fun x => res s.e im (evalO c s.e x)), []⟩) : StepTo P c z s tm w a op K := by
  generalize hids : oslIdsl (xs.map fun x => res s.e im (evalO c s.e x)) = ids at *
  generalize hvs' : subFz ids s (xs.map fun x => res s.e im (evalO c s.e x)) = vs' at *
  obtain ⟨F1, β1, h1, h2, h3⟩ := Rl.freezes ids hr (allLow_iff _ hlow)
  obtain ⟨k1, k2⟩ := h3 (xs.map fun x => res s.e im (evalO c s.e x)) (xs.map a.eval) (by simp) (fun i u x hi hx => by
    rw [List.getElem?_map, Option.map_eq_some_iff] at hi hx
    obtain ⟨y, hy, rfl⟩ := hi
    obtain ⟨y', hy', rfl⟩ := hx
    rw [hy] at hy'; cases hy'
    exact res_ra ha hr.toRel him y)
  rw [hvs'] at k1 k2
  have hvl : vs'.length = n := by rw [k1]; simpa using hn
  obtain ⟨info, zv, desc, t1, t2, t3, t4, t5, t6, t7, t8, t9, t10⟩ := hr.tab.ok el ti hel
  have hcell : ∀ (i : Nat) (u : Value) (x : V), (xs.map a.eval)[i]? = some u → vs'[i]? = some x → u.cells.size = ti.sz ∧ (∀ q, q ∈ u.cells → q.oneCell' = true) ∧ (cells x).length = ti.sz ∧ ∀ (j : Nat) (q : Value) (y : V), u.cells[j]? = some q → (cells x)[j]? = some y → RD w F1 q y := by
    intro i u x hi hx
    obtain ⟨cs, hc1, hc2⟩ := allLen_iff _ _ hlen x (List.mem_of_getElem? hx)
    obtain ⟨m1, m2, m3⟩ := cellsX_ra (k2 i u x hi hx) hc1
    have hxd : isData x = true := (isDatal_iff _).1 hd x (List.mem_of_getElem? hx)
    rw [cellsX_cells hc1]
    refine ⟨m1.trans hc2, m2, hc2, fun j q y hq hy => (m3 j q y hq hy).data ?_⟩
    cases x <;> simp only [cellsX, Option.some.injEq, reduceCtorEq] at hc1 <;> subst hc1 <;> first
      | (simp only [isData, isDatal_iff] at hxd; exact hxd y (List.mem_of_getElem? hy))
      | (cases j with
         | zero => simp at hy; subst hy; exact hxd
         | succ j => simp at hy)
  have hpl : (parts.map fun (i, x) => (i, a.eval x)).toList = ((xs.map a.eval).zipIdx 0).map fun x => (x.2, x.1) := by
    rw [Array.toList_map, inOrder_eq _ _ _ ho, List.zipIdx_map, List.map_map, List.map_map]
    rfl
  have hu := slice_ty hr.tab ht
  have hvlim : vs'.length ≤ LIM := by
    have : n * 1 ≤ n * ti.sz := Nat.mul_le_mul_left _ hpos
    unfold LIM; omega
  have key : ∀ (cv : Array Value), (Instr.buildSlice t n (parts.map fun (i, x) => (i, a.eval x))).run P w = .ok (.slice (some ⟨w.heap.size, 0, none⟩) n n) { w with heap := w.heap.push (.cells cv el) } →
      (∀ (i : Nat) (u : Value) (j : Nat), (xs.map a.eval)[i]? = some u → j < ti.sz → cv[i * ti.sz + j]? = u.cells[j]?) → StepTo P c z s tm w a op K := by
    intro cv hrun hcv
    obtain ⟨g1, g2, g3⟩ := h1.newData cv el
    refine StepTo.of_run (val := .slice (some ⟨w.heap.size, 0, none⟩) n n) ?_ hk g1 (.d _ _ ?_)
    · simp only [execOp, hop, Sem.run_bind, hrun, Result.andThen_ok, Sem.run_pure]
    · rw [← hvl]
      have hget : ∀ (i : Nat) (e : V), vs'[i]? = some e → ∃ u, (xs.map a.eval)[i]? = some u := fun i e he => by
        have : i < (xs.map a.eval).length := by simp only [List.length_map, hn, ← hvl]; exact (List.getElem?_eq_some_iff.1 he).1
        exact ⟨_, List.getElem?_eq_getElem this⟩
      refine .slice _ ti.sz vs' (by simp [V.elems]) (by simp) ⟨w.heap.size, 0, none⟩ vs'.length (Nat.le_refl _) hvlim (fun _ => rfl) (fun _ => g3) (fun _ => by simp) (fun i e he => ?_) (fun i j => (cv[i * ti.sz + j]?).getD undef)
        (fun i e he j y hy => ?_) (fun i e he j y hy => ?_) (fun i e he j y hy => ?_)
      all_goals obtain ⟨u, hu'⟩ := hget i e he
      all_goals obtain ⟨m1, m2, m3, m4⟩ := hcell i u e hu' he
      · exact m3
      all_goals
        have hj : j < ti.sz := by rw [← m3]; exact (List.getElem?_eq_some_iff.1 hy).1
        have hjc : j < u.cells.size := by omega
        have hq := hcv i u j hu' hj
        rw [Array.getElem?_eq_getElem hjc] at hq
      · simp only [hq, Option.getD_some]; exact m2 _ (by simp)
      · simp [World.cell?, hq]
      · simp only [hq, Option.getD_some]; exact g2 _ _ (m4 j _ y (Array.getElem?_eq_getElem hjc) hy)
  by_cases hz : n * ti.sz = 0
  · have hn0 : n = 0 := by
      rcases Nat.mul_eq_zero.1 hz with h | h
      · exact h
      · omega
    have hxs : xs = [] := List.eq_nil_of_length_eq_zero (by omega)
    refine key #[] ?_ (fun i u j hi => by rw [hxs] at hi; simp at hi)
    subst hn0
    rw [hxs] at hpl
    have hp : parts = #[] := by simpa using hpl
    rw [hp]
    simp [Instr.buildSlice, run_underlying hu, sizeOf_run hr.tab hel, Instr.fill, newRow, Array.range_zero']
  · obtain ⟨r, r1, r2, r3⟩ := Great.fill_dense hpos (xs.map a.eval) 0 ((Array.range (n * info.size)).map (zv.cells[· % zv.cells.size]!)) (fun v hv => by
        obtain ⟨i, hi⟩ := mem_of_getElem? hv
        have hlt : i < vs'.length := by rw [hvl, ← hn]; have := (List.getElem?_eq_some_iff.1 hi).1; simpa using this
        exact (hcell i v _ hi (List.getElem?_eq_getElem hlt)).1) (by simp [hn, t4])
    refine key r ?_ (fun i u j hi hj => ?_)
    · have hb' : ¬ n * info.size > 2 ^ 24 := by rw [t4]; omega
      have := run_buildSlice (P := P) w t el n (parts.map fun (i, x) => (i, a.eval x)) r info zv hu t1 t6 hb' (by rw [t4]; exact hz) (by rw [hpl, t4]; rw [t4] at r1; exact r1)
      rw [this]; rfl
    · have hin : i < xs.length := by have := (List.getElem?_eq_some_iff.1 hi).1; simpa using this
      rw [r3]
      have hd1 : (i * ti.sz + j) / ti.sz = i := by
        rw [Nat.mul_comm, Nat.mul_add_div hpos, Nat.div_eq_of_lt hj]; rfl
      have hd2 : (i * ti.sz + j) % ti.sz = j := by
        rw [Nat.mul_comm, Nat.mul_add_mod, Nat.mod_eq_of_lt hj]
      have hle : i * ti.sz + j < (0 + (xs.map a.eval).length) * ti.sz := by
        have : (i + 1) * ti.sz ≤ xs.length * ti.sz := Nat.mul_le_mul_right _ hin
        rw [Nat.add_mul, Nat.one_mul] at this
        simp only [List.length_map, Nat.zero_add]; omega
      rw [if_pos ⟨by omega, hle⟩, hd1, hd2, Nat.sub_zero, hi]
      rfl

/-- How a state is left by a slicing. -/
theorem step_sub (ha : a.tmps = tm) (hr : Rl P c z F β s tm w) {im : List (Nat × Bool)} (him : ∀ t b, (t, b) ∈ im → tm.getD t undef = .bool b) {t el : TypeId} {x : Operand} {lo hi : Option Operand} {ti : TI} {q1 q2 : Nat} {q3 : List V} {l0 : IE} {h0 : Option IE}
    (ht : tlook c.T t = some ⟨.slice el, q1, q2, q3⟩) (hel : tlook c.T el = some ti)
    (hlo : (match lo with
        | some y => ieOf (res s.e im (evalO c s.e y))
        | none => some (.lit 0)) = some l0)
    (hhi : (match hi with
        | some y => (match ieOf (res s.e im (evalO c s.e y)) with
          | some e => some (some e)
          | none => none)
        | none => some none) = some h0) (hop : op.op = .slice t x lo hi none)
    {F1 : Nat → Prop} {α : Type} {f : α → V} {l : List α} (hx : RD w F1 (a.eval x) (.sl ti.sz f l))
    {J : V → Prop} (hk : SubP l l0 (h0.getD (.len l)) (fun l' => J (.sl ti.sz f l'))) :
    ∃ v x, (∀ w', (execOp a.eval op).run P w' = .ok (.value v) w') ∧ RD w F1 v x ∧ J x := by
  obtain ⟨lo', hi', ha1, ha2, ha3, ha4, hk⟩ := hk
  obtain ⟨ad, cc, e1, e2, _, e3⟩ := sub_rd hx lo' hi' ha3 ha4
  have hrun := fun w' => sliceAt_run (P := P) (w := w') (ad := ad) (len := l.length) (cap := cc) (lo := lo.map a.eval) (hi := hi.map a.eval) (l := lo') (h := hi') (slice_ty hr.tab ht) hr.tab hel ?h1 ?h2 ha3 ha4 e2
  · refine ⟨_, _, fun w' => ?_, e3, hk _ rfl⟩
    simp only [execOp, hop, Sem.run_bind, e1, hrun, Option.map_none, Result.andThen_ok, Sem.run_pure]
  · cases lo with
    | none => simp only [Option.some.injEq] at hlo; subst hlo; simp only [IE.den] at ha1; exact .inl ⟨rfl, by omega⟩
    | some y =>
      simp only at hlo
      obtain ⟨k, hy, _⟩ := ieOf_ra (res_ra ha hr.toRel him y) hlo
      exact .inr ⟨k, by simp [hy, ha1]⟩
  · cases hi with
    | none =>
      simp only [Option.some.injEq] at hhi; subst hhi
      simp only [Option.getD_none, IE.den] at ha2
      exact .inl ⟨rfl, by omega⟩
    | some y =>
      simp only at hhi
      split at hhi
      · rename_i e he
        simp only [Option.some.injEq] at hhi; subst hhi
        obtain ⟨k, hy, _⟩ := ieOf_ra (res_ra ha hr.toRel him y) he
        simp only [Option.getD_some] at ha2
        exact .inr ⟨k, by simp [hy, ha2]⟩
      · cases hhi

end
end Go.Vg
