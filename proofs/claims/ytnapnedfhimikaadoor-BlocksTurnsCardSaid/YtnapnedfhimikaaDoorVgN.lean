/- The conditions suffice: build, append, calls. -/
import Derived.Test.YtnapnedfhimikaaDoorVgM
set_option maxRecDepth 4000
set_option linter.all false
set_option linter.unusedVariables false
set_option linter.unusedSimpArgs false
namespace Go.Vg
open Go

section
variable {P : Program} {c : Ctx} {z : From} {F : Nat → Prop} {β : Bt} {s : St} {tm : Array Value} {w : World} {a : Act} {op : Oper} {K : Out → Prop}

theorem places_of {fs : List Field} (h : ∀ f, f ∈ fs → ((P.info? f.type).map (·.size)).isSome = true) : ∃ places, fs.mapM (fun f => (P.info? f.type).map fun i => (f.offset, i.size)) = some places ∧ ∀ i : Nat, places[i]? = (fs[i]?).bind fun f => (P.info? f.type).map fun i => (f.offset, i.size) := by
  induction fs with
  | nil => exact ⟨[], by simp, by simp⟩
  | cons f r ih =>
    obtain ⟨pl, h1, h2⟩ := ih (fun g hg => h g (List.mem_cons_of_mem _ hg))
    have hf := h f List.mem_cons_self
    cases hi : P.info? f.type with
    | none => simp [hi] at hf
    | some i =>
      refine ⟨(f.offset, i.size) :: pl, by simp [hi, h1], fun k => ?_⟩
      cases k with
      | zero => simp [hi]
      | succ k => simpa using h2 k

theorem zero_ra (hr : Rl P c z F β s tm w) {t : TypeId} {ti : TI} (ht : tlook c.T t = some ti) : ∃ info zv, P.info? t = some info ∧ info.zero = some zv ∧ zv.cells.size = ti.zero.length ∧ (∀ u, u ∈ zv.cells → u.oneCell' = true) ∧
    ∀ (i : Nat) (u : Value) (y : V), zv.cells[i]? = some u → ti.zero[i]? = some y → RA w F β s.o u y := by
  obtain ⟨info, zv, desc, t1, t2, t3, t4, t5, t6, t7, t8, t9, t10⟩ := hr.tab.ok t ti ht
  refine ⟨info, zv, t1, t6, by rw [← t7]; simp, t9, fun i u y hi hy => ?_⟩
  rw [← t7, List.getElem?_map, Option.map_eq_some_iff] at hy
  obtain ⟨u', hu', rfl⟩ := hy
  have : zv.cells.toList[i]? = some u := by simpa using hi
  rw [this] at hu'; cases hu'
  exact .d _ _ (constV_rd w F u)

theorem step_build_struct (ha : a.tmps = tm) (hr : Rl P c z F β s tm w) {im : List (Nat × Bool)} (him : ∀ t b, (t, b) ∈ im → tm.getD t undef = .bool b) {t : TypeId} {parts : Array (Nat × Operand)} {fs : List (Nat × TypeId)} {q1 q2 : Nat} {zero cs : List V}
    (hop : op.op = .build t parts) (ht : tlook c.T t = some ⟨.struct fs, q1, q2, zero⟩)
    (hf : fillX c s.e im (fun i => match nthf fs i with
        | some (off, ft) => match tlook c.T ft with
          | some ti => some (off, ti.sz)
          | none => none
        | none => none) parts.toList zero = some cs) {J : V → Prop} (hk : J (.agg cs)) : YieldTo P s w F β a op J := by
  obtain ⟨info, zv, m1, m2, m3, m4, m5⟩ := zero_ra hr ht
  obtain ⟨info', zv', desc, t1, t2, t3, t4, t5, t6, t7, t8, t9, t10⟩ := hr.tab.ok t _ ht
  cases desc <;> simp only [TD.of, reduceCtorEq, TD.struct.injEq] at t3
  rename_i fields
  obtain ⟨pl, p1, p2⟩ := places_of (P := P) (fs := fields.toList) (t10 fields rfl)
  obtain ⟨cv', k1, k2, k3, k4⟩ := fillX_run (place' := (pl.toArray[·]?)) (fun x => res_ra ha hr.toRel him x) (fun i q hq => by
    split at hq
    · rename_i off ft hn
      split at hq
      · rename_i ti hti
        simp only [Option.some.injEq] at hq
        subst hq
        rw [nthf_eq, ← t3] at hn
        simp only [List.getElem?_map, Option.map_eq_some_iff, Prod.mk.injEq] at hn
        obtain ⟨f, hf1, rfl, rfl⟩ := hn
        obtain ⟨i2, z2, d2, u1, u2, u3, u4, u5⟩ := hr.tab.ok _ _ hti
        simp only [List.getElem?_toArray, p2 i, hf1, Option.bind_some, u1, Option.map_some, u4]
      · cases hq
    · cases hq) parts.toList zv.cells zero cs m3 m4 m5 hf
  refine ⟨.agg cv', _, fun w' => ?_, .agg _ _ k2 k3 k4, hk⟩
  have hb : P.built t (parts.map fun (i, x) => (i, a.eval x)).toList = some cv' := by
    unfold Program.built
    simp only [m1, t2, m2, p1]
    rw [Array.toList_map]
    exact k1
  simp only [execOp, hop, Sem.run_bind, run_build w' t _ cv' hb, Result.andThen_ok, Sem.run_pure]

theorem step_build_arr (ha : a.tmps = tm) (hr : Rl P c z F β s tm w) {im : List (Nat × Bool)} (him : ∀ t b, (t, b) ∈ im → tm.getD t undef = .bool b) {t el : TypeId} {parts : Array (Nat × Operand)} {n q1 q2 : Nat} {zero cs : List V} {ti : TI}
    (hop : op.op = .build t parts) (ht : tlook c.T t = some ⟨.arr n el, q1, q2, zero⟩) (hel : tlook c.T el = some ti)
    (hf : fillX c s.e im (fun i => some (i * ti.sz, ti.sz)) parts.toList zero = some cs) {J : V → Prop} (hk : J (.agg cs)) : YieldTo P s w F β a op J := by
  obtain ⟨info, zv, m1, m2, m3, m4, m5⟩ := zero_ra hr ht
  obtain ⟨i2, z2, d2, u1, u2, u3, u4, u5⟩ := hr.tab.ok _ _ hel
  obtain ⟨cv', k1, k2, k3, k4⟩ := fillX_run (place' := fun i => some (i * i2.size, i2.size)) (fun x => res_ra ha hr.toRel him x) (fun i q hq => by rw [u4]; exact hq) parts.toList zv.cells zero cs m3 m4 m5 hf
  refine ⟨.agg cv', _, fun w' => ?_, .agg _ _ k2 k3 k4, hk⟩
  have hb : P.built t (parts.map fun (i, x) => (i, a.eval x)).toList = some cv' := by
    unfold Program.built
    simp only [m1, arr_ty hr.tab ht, m2, u1]
    rw [Array.toList_map]
    exact k1
  simp only [execOp, hop, Sem.run_bind, run_build w' t _ cv' hb, Result.andThen_ok, Sem.run_pure]

/-- The cells of a slice, own or not. -/
theorem vel_cells {o : Own} (ho : OwnOk w F β o) {v : Value} {x : V} {sz : Nat} {es : List V} (h : RA w F β o v x) (hx : velems o x = some (sz, es)) :
    ∃ ad cc, v = .slice ad es.length cc ∧ es.length ≤ LIM ∧ (es ≠ [] → ∃ b off, ad = some ⟨b, off, none⟩ ∧ ∀ (i : Nat) (e : V), es[i]? = some e → (cells e).length = sz ∧ ∀ (j : Nat) (y : V), (cells e)[j]? = some y →
      ∃ cv, w.cell? ⟨b, off + i * sz + j, none⟩ = some cv ∧ cv.oneCell' = true ∧ RD w F cv y) := by
  have data : ∀ x : V, RD w F v x → x.elems = some (sz, es) → ∃ ad cc, v = .slice ad es.length cc ∧ es.length ≤ LIM ∧ (es ≠ [] → ∃ b off, ad = some ⟨b, off, none⟩ ∧ ∀ (i : Nat) (e : V), es[i]? = some e → (cells e).length = sz ∧ ∀ (j : Nat) (y : V), (cells e)[j]? = some y →
      ∃ cv, w.cell? ⟨b, off + i * sz + j, none⟩ = some cv ∧ cv.oneCell' = true ∧ RD w F cv y) := by
    intro x hd he
    cases hd with
    | nilsl x sz' hx' => rw [he] at hx'; cases hx'; exact ⟨none, 0, rfl, by simp, fun h => absurd rfl h⟩
    | slice x sz' es' hx' hnn ad cc hc hl hs hF hb hsz cv hone hcv hr =>
      rw [he] at hx'; cases hx'
      obtain ⟨b, off, spot⟩ := ad
      exact ⟨_, cc, rfl, hl, fun hne => by
        have hs := hs hne
        simp only at hs; subst hs
        exact ⟨b, off, rfl, fun i e hi => ⟨hsz i e hi, fun j y hj => ⟨cv i j, hcv i e hi j y hj, hone i e hi j y hj, hr i e hi j y hj⟩⟩⟩⟩
    | _ => simp [V.elems] at he
  cases x with
  | osl id =>
    simp only [velems] at hx
    split at hx
    · rename_i fx e1 sz1 α f l he
      simp only [Option.some.injEq, Prod.mk.injEq] at hx
      obtain ⟨rfl, rfl⟩ := hx
      obtain ⟨fx1, e2, sz2, α2, f2, l2, h1, h2⟩ := RA.of_osl h
      rw [he] at h1
      simp only [Option.some.injEq, Ent.arr.injEq] at h1
      obtain ⟨rfl, rfl, rfl, rfl, hf, hl⟩ := h1
      have hf := eq_of_heq hf
      have hl := eq_of_heq hl
      subst hf; subst hl
      rcases h2 with ⟨rfl, rfl⟩ | ⟨b, cc, cur, hb, rfl, k2, k3, k4, k5, k6⟩
      · exact ⟨none, 0, rfl, by simp, fun h => absurd rfl h⟩
      · refine ⟨some ⟨b, 0, none⟩, cc, by simp, by simpa using k4, fun _ => ⟨b, 0, rfl, fun i e hi => ?_⟩⟩
        rcases ho.ent id _ he with ⟨m, _⟩ | ⟨b', cur', m1, m2, m3, m4, m5, m6⟩
        · rw [m] at hb; cases hb
        · rw [hb] at m1; cases m1
          rw [List.getElem?_map, Option.map_eq_some_iff] at hi
          obtain ⟨p, hp, rfl⟩ := hi
          refine ⟨(m6 i p hp).1, fun j y hj => ?_⟩
          obtain ⟨cv, n1, n2⟩ := (m6 i p hp).2 j y hj
          exact ⟨cv, by simp [World.cell?, m3, n1], m5 cv (Array.mem_of_getElem? n1), n2⟩
    · cases hx
  | sl => exact data _ (RA.of_elems h hx) hx
  | view id lo n =>
    simp only [velems] at hx
    split at hx
    · rename_i fx e1 sz1 α f l he
      simp only [Option.some.injEq, Prod.mk.injEq] at hx
      obtain ⟨rfl, rfl⟩ := hx
      obtain ⟨fx1, e2, sz2, α2, f2, l2, i, m, h1, hlo, hn, him, h2⟩ := RA.of_view h
      rw [he] at h1
      simp only [Option.some.injEq, Ent.arr.injEq] at h1
      obtain ⟨rfl, rfl, rfl, rfl, hf, hl⟩ := h1
      have hf := eq_of_heq hf
      have hl := eq_of_heq hl
      subst hf; subst hl
      have e1 : lo.den.toNat = i := by rw [hlo]; simp
      have e2 : n.den.toNat = m := by rw [hn]; simp
      rw [e1, e2]
      have hlen : (((l.drop i).take m).map f).length = m := by simp; omega
      rcases h2 with ⟨rfl, ad, cc, rfl⟩ | ⟨b, cc, cur, hpos, hb, rfl, k2, k3, k4, k5, k6⟩
      · exact ⟨ad, cc, by simp, by simp, fun h => by simp at h⟩
      · rcases ho.ent id _ he with ⟨h, _⟩ | ⟨b', cur', m1, m2, m3, m4, m5, m6⟩
        · rw [h] at hb; cases hb
        · rw [hb] at m1; cases m1
          rw [k5] at m3; cases m3
          refine ⟨some ⟨b, i * sz1, none⟩, cc - i, by rw [hlen], by rw [hlen]; omega, fun _ => ⟨b, i * sz1, rfl, fun j q hq => ?_⟩⟩
          rw [List.getElem?_map, Option.map_eq_some_iff] at hq
          obtain ⟨q', hq', rfl⟩ := hq
          rw [List.getElem?_take] at hq'
          split at hq'
          · rw [List.getElem?_drop] at hq'
            obtain ⟨u1, u2⟩ := m6 _ q' hq'
            refine ⟨u1, fun t y hy => ?_⟩
            obtain ⟨cv, w1, w2⟩ := u2 t y hy
            refine ⟨cv, ?_, m5 cv (Array.mem_of_getElem? w1), w2⟩
            simp only [World.cell?, k5]
            rw [show i * sz1 + j * sz1 + t = (i + j) * sz1 + t by rw [Nat.add_mul]]
            simpa using w1
          · cases hq'
    · cases hx
  | sls => exact data _ (RA.of_elems h hx) hx
  | nilsl => exact data _ (RA.of_elems h hx) hx
  | _ => simp [velems, V.elems] at hx

theorem news_cells {o : Own} (ho : OwnOk w F β o) {v : Value} {x : V} {sz : Nat} {α : Type} {f : α → V} {xs : List α} (h : RA w F β o v x) (hx : News o sz f xs x) (hsz : 0 < sz) :
    ∃ ad cc, v = .slice ad xs.length cc ∧ xs.length ≤ LIM ∧ (xs = [] ∨ ∃ (b off : Nat) (news : List Value), ad = some ⟨b, off, none⟩ ∧ news.length = xs.length * sz ∧ (∀ (j : Nat) (u : Value), news[j]? = some u → w.cell? ((⟨b, off, none⟩ : Addr).add j) = some u) ∧ (∀ u, u ∈ news → u.oneCell' = true) ∧
      ∀ (i : Nat) p, xs[i]? = some p → (cells (f p)).length = sz ∧ ∀ (j : Nat) (y : V), (cells (f p))[j]? = some y → ∃ cv, news[i * sz + j]? = some cv ∧ RD w F cv y) := by
  obtain ⟨es, h1, h2, h3⟩ := hx
  obtain ⟨ad, cc, e1, e2, e3⟩ := vel_cells ho h h1
  rw [h2] at e1 e2
  refine ⟨ad, cc, e1, e2, ?_⟩
  by_cases hxs : xs = []
  · exact .inl hxs
  · right
    have hne : es ≠ [] := fun h => hxs (List.eq_nil_of_length_eq_zero (by rw [← h2, h]; rfl))
    obtain ⟨b, off, rfl, hc⟩ := e3 hne
    have hcell : ∀ k, k < xs.length * sz → ∃ u, w.cell? ⟨b, off + k, none⟩ = some u ∧ u.oneCell' = true := fun k hk => by
      have hi : k / sz < es.length := by rw [h2]; exact Nat.div_lt_of_lt_mul (by rw [Nat.mul_comm]; exact hk)
      have he := List.getElem?_eq_getElem hi
      obtain ⟨l1, l2⟩ := hc _ _ he
      have hj : k % sz < (cells es[k / sz]).length := by rw [l1]; exact Nat.mod_lt _ hsz
      obtain ⟨cv, k1, k2, _⟩ := l2 _ _ (List.getElem?_eq_getElem hj)
      have : off + k / sz * sz + k % sz = off + k := by rw [Nat.mul_comm, Nat.add_assoc, Nat.div_add_mod]
      rw [this] at k1
      exact ⟨cv, k1, k2⟩
    refine ⟨b, off, (List.range (xs.length * sz)).map (fun k => (w.cell? ⟨b, off + k, none⟩).getD undef), rfl, by simp, fun j u hj => ?_, fun u hu => ?_, fun i p hp => ?_⟩
    · rw [List.getElem?_map, Option.map_eq_some_iff] at hj
      obtain ⟨k, hk, rfl⟩ := hj
      have hjk : j = k := by
        have := List.getElem?_eq_some_iff.1 hk
        obtain ⟨_, h⟩ := this
        simpa using h
      subst hjk
      have hlt : j < xs.length * sz := by have := (List.getElem?_eq_some_iff.1 hk).1; simpa using this
      obtain ⟨u, hu, _⟩ := hcell j hlt
      rw [Addr.add_at, hu]; rfl
    · rw [List.mem_map] at hu
      obtain ⟨k, hk, rfl⟩ := hu
      obtain ⟨u, hu1, hu2⟩ := hcell k (by simpa using hk)
      rw [hu1]; exact hu2
    · have hi : i < es.length := by rw [h2]; exact (List.getElem?_eq_some_iff.1 hp).1
      have he := List.getElem?_eq_getElem hi
      obtain ⟨l1, l2⟩ := hc _ _ he
      have hv := h3 i _ p he hp
      have hlen : (cells (f p)).length = sz := by rw [← hv.1, l1]
      refine ⟨hlen, fun j y hj => ?_⟩
      obtain ⟨q, hq1, hq2⟩ := hv.get hj
      obtain ⟨cv, k1, _, k3⟩ := l2 j q hq1
      have hjs : j < sz := by rw [← hlen]; exact (List.getElem?_eq_some_iff.1 hj).1
      have hlt : i * sz + j < xs.length * sz := by
        have h4 : i < xs.length := by omega
        have : (i + 1) * sz ≤ xs.length * sz := Nat.mul_le_mul_right _ h4
        rw [Nat.add_mul, Nat.one_mul] at this; omega
      refine ⟨cv, ?_, hq2 _ _ _ k3⟩
      have hr : (List.range (xs.length * sz))[i * sz + j]? = some (i * sz + j) := by rw [List.getElem?_range hlt]
      rw [List.getElem?_map, hr]
      simp only [Option.map_some]
      rw [← Nat.add_assoc, k1]; rfl

end
end Go.Vg
