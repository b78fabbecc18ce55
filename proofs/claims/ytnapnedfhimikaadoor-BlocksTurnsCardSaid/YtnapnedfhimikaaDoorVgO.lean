/- The conditions suffice: append and calls; all operations together. -/
import Derived.Test.YtnapnedfhimikaaDoorVgN
set_option maxRecDepth 4000
set_option linter.all false
set_option linter.unusedVariables false
set_option linter.unusedSimpArgs false
namespace Go.Vg
open Go

section
variable {P : Program} {c : Ctx} {z : From} {F : Nat → Prop} {β : Bt} {s : St} {tm : Array Value} {w : World} {a : Act} {op : Oper} {K : Out → Prop}

theorem drew_same (w : World) : w.drew.heap = w.heap ∧ w.drew.os = w.os ∧ w.drew.tape = w.tape ∧ OutLe w w.drew := ⟨rfl, rfl, rfl, rfl, Nat.le_succ _⟩

theorem zeroCells_one {zc : Array Value} (h : ∀ u, u ∈ zc → u.oneCell' = true) (n : Nat) : ∀ u, u ∈ Builtin.zeroCells zc n → u.oneCell' = true := by
  intro u hu
  obtain ⟨i, hi, rfl⟩ := Array.mem_iff_getElem.1 hu
  simp only [Builtin.zeroCells, Array.size_map, Array.size_range] at hi
  have hz : 0 < zc.size := by
    rcases Nat.eq_zero_or_pos zc.size with h0 | h0
    · rw [h0] at hi; simp at hi
    · exact h0
  have : i % zc.size < zc.size := Nat.mod_lt _ hz
  simp only [Builtin.zeroCells, Array.getElem_map, Array.getElem_range]
  rw [getElem!_pos zc (i % zc.size) this]
  exact h _ (by simp)

theorem step_append_nil (ha : a.tmps = tm) (hr : Rl P c z F β s tm w) {im : List (Nat × Bool)} (him : ∀ t b, (t, b) ∈ im → tm.getD t undef = .bool b) {t el : TypeId} {x y : Operand} {d : Nat} {ti : TI} {q1 q2 : Nat} {q3 : List V}
    (hop : op.op = .call ⟨.builtin .append, ⟨[x, y]⟩, ⟨[t, t]⟩⟩) (ht : tlook c.T t = some ⟨.slice el, q1, q2, q3⟩) (hel : tlook c.T el = some ti) (hd : d < 10000) (hpos : 0 < ti.sz) (hx : res s.e im (evalO c s.e x) = .nilsl)
    {α : Type} {f : α → V} {xs : List α} (hn : News s.o ti.sz f xs (res s.e im (evalO c s.e y))) (hb : xs.length * ti.bytes ≤ 140737488355328) (hk : K ⟨.osl d, [], [(d, true, .arr false el ti.sz f xs)]⟩) : StepTo P c z s tm w a op K := by
  have hxx := res_ra ha hr.toRel him x
  rw [hx] at hxx
  have hxv : a.eval x = .slice none 0 0 := by
    have hd := RA.of_elems hxx (rfl : V.nilsl.elems = some (0, []))
    generalize hq : V.nilsl = q at hd
    generalize a.eval x = val at hd ⊢
    cases hd with
    | nilsl => rfl
    | slice x sz es hx hnn => exact absurd hq.symm hnn
    | _ => cases hq
  obtain ⟨info, zv, desc, t1, t2, t3, t4, t5, t6, t7, t8, t9, t10⟩ := hr.tab.ok el ti hel
  have hu := slice_ty hr.tab ht
  obtain ⟨ad, cc, e1, e2, e3⟩ := news_cells hr.own (res_ra ha hr.toRel him y) hn hpos
  by_cases hxs : xs = []
  · -- nothing is appended to nothing
    subst hxs
    have hR := hr.anew (w' := w) (F' := F) (X := d) (nb := none) (ent := .arr false el ti.sz f []) (.inl hd) (fun _ _ _ => rfl) rfl rfl ⟨rfl, Nat.le_refl _⟩ (Nat.le_refl _) (fun _ h => h) (fun _ _ h => h) hr.Flt (fun b hb => by cases hb) (.inl ⟨by simp, rfl⟩)
    refine StepTo.of_run (val := .slice none 0 0) (w' := w) ?_ hk hR (.osl0 d false el ti.sz f (by simp [St.after, ups, frz, up1, olook, Ent.sub]))
    have hrun : (Builtin.append_ #[t, t] op.type #[.slice none 0 0, .slice ad 0 cc]).run P w = .ok (.slice none 0 0) w := by
      have hs := sizeOf_run hr.tab hel w
      cases ad <;> simp [Builtin.append_, run_underlying hu, hs, Builtin.lenOf, Builtin.firstCells, loadCells, loadCellsFrom, storeCells]
    simp only [List.length_nil] at e1
    simp [execOp, hop, resolve, invoke, builtin, hxv, e1, hrun]
  · obtain ⟨b, off, news, rfl, k1, k2, k3, k4⟩ := e3.resolve_left hxs
    have hlen : 0 < xs.length := List.length_pos_iff.2 hxs
    have hrun := run_append_nil (P := P) w t op.type el info zv hu t1 t6 ⟨b, off, none⟩ xs.length cc news (by rw [k1, t4]) k2 hlen (by unfold LIM at e2; omega) (by rw [t5]; omega)
    have hge := grownCap_ge w xs.length 0 el
    obtain ⟨F', β', g1, g2⟩ := hr.newArr (d := d) (.inl hd) (cur := news.toArray ++ Builtin.zeroCells zv.cells (grownCap w xs.length 0 el - xs.length)) (e := el) (sz := ti.sz) (f := f) (l := xs) (cc := grownCap w xs.length 0 el) hge
      (grownCap_le_maxLen w _ _ el (by unfold LIM at e2; simp only [maxLen]; omega)) e2 (by simp only [Array.size_append, List.size_toArray, size_zeroCells, k1, t8, ← Nat.add_mul]; congr 1; omega)
      (fun u hu' => by
        rcases Array.mem_append.1 hu' with h | h
        · exact k3 u (by simpa using h)
        · exact zeroCells_one t9 _ u h)
      (fun i p hp => by
        obtain ⟨m1, m2⟩ := k4 i p hp
        refine ⟨m1, fun j y hj => ?_⟩
        obtain ⟨cv, n1, n2⟩ := m2 j y hj
        refine ⟨cv, ?_, n2⟩
        have hlt := (List.getElem?_eq_some_iff.1 n1).1
        rw [Array.getElem?_append_left (by simpa using hlt)]
        simpa using n1)
      (w0 := w.drew) (drew_same w)
    refine StepTo.of_run ?_ hk g1 g2
    simp only [execOp, hop, resolve, invoke, builtin, Sem.run_bind, Sem.run_pure, Result.andThen_ok, List.map_toArray, List.map_cons, List.map_nil, hxv, e1, hrun]
    rfl

theorem step_append_own (ha : a.tmps = tm) (hr : Rl P c z F β s tm w) {im : List (Nat × Bool)} (him : ∀ t b, (t, b) ∈ im → tm.getD t undef = .bool b) {t el : TypeId} {x y : Operand} {id : Nat} {ti : TI} {q1 q2 : Nat} {q3 : List V}
    (hop : op.op = .call ⟨.builtin .append, ⟨[x, y]⟩, ⟨[t, t]⟩⟩) (ht : tlook c.T t = some ⟨.slice el, q1, q2, q3⟩) (hel : tlook c.T el = some ti) (hpos : 0 < ti.sz) (hx : res s.e im (evalO c s.e x) = .osl id) {e0 : TypeId}
    {α : Type} {f : α → V} {l xs : List α} (ho : olook s.o id = some (.arr false e0 ti.sz f l)) (hn : News s.o ti.sz f xs (res s.e im (evalO c s.e y))) (hb : (l.length + xs.length) * ti.bytes ≤ 140737488355328) (hlim : l.length + xs.length ≤ LIM) (hee : e0 = el)
    (hX : id < 10000 ∨ (∀ ent, olook z.o id = some ent → pinned ent = false)) (hk : K ⟨.osl id, [], [(id, true, .arr false el ti.sz f (l ++ xs))]⟩) : StepTo P c z s tm w a op K := by
  subst hee
  have hxx := res_ra ha hr.toRel him x
  rw [hx] at hxx
  obtain ⟨info, zv, desc, t1, t2, t3, t4, t5, t6, t7, t8, t9, t10⟩ := hr.tab.ok e0 ti hel
  have hu := slice_ty hr.tab ht
  obtain ⟨ad, cc, e1, e2, e3⟩ := news_cells hr.own (res_ra ha hr.toRel him y) hn hpos
  obtain ⟨fx1, e1', sz1, α1, f1, l1, g1, g2⟩ := RA.of_osl hxx
  rw [ho] at g1
  simp only [Option.some.injEq, Ent.arr.injEq] at g1
  obtain ⟨rfl, rfl, rfl, rfl, hf, hl⟩ := g1
  have hf := eq_of_heq hf
  have hl := eq_of_heq hl
  subst hf; subst hl
  rcases g2 with ⟨rfl, hxv⟩ | ⟨b, cc0, cur, hb0, hxv, k2, k3, k4, k5, k6⟩
  · -- onto nothing
    simp only [List.nil_append] at hk
    simp only [List.length_nil, Nat.zero_add] at hb
    by_cases hxs : xs = []
    · subst hxs
      have hR := hr.anew (w' := w) (F' := F) (X := id) (nb := none) (ent := .arr false e0 ti.sz f []) hX (fun _ _ _ => rfl) rfl rfl ⟨rfl, Nat.le_refl _⟩ (Nat.le_refl _) (fun _ h => h) (fun _ _ h => h) hr.Flt (fun b hb => by cases hb) (.inl ⟨by simp, rfl⟩)
      refine StepTo.of_run (val := .slice none 0 0) (w' := w) ?_ hk hR (.osl0 id false e0 ti.sz f (by simp [St.after, ups, frz, up1, olook, Ent.sub]))
      have hrun : (Builtin.append_ #[t, t] op.type #[.slice none 0 0, .slice ad 0 cc]).run P w = .ok (.slice none 0 0) w := by
        have hs := sizeOf_run hr.tab hel w
        cases ad <;> simp [Builtin.append_, run_underlying hu, hs, Builtin.lenOf, Builtin.firstCells, loadCells, loadCellsFrom]
      simp only [List.length_nil] at e1
      simp [execOp, hop, resolve, invoke, builtin, hxv, e1, hrun]
    · obtain ⟨b, off, news, rfl, k1, k2, k3, k4⟩ := e3.resolve_left hxs
      have hlen : 0 < xs.length := List.length_pos_iff.2 hxs
      have hrun := run_append_nil (P := P) w t op.type e0 info zv hu t1 t6 ⟨b, off, none⟩ xs.length cc news (by rw [k1, t4]) k2 hlen (by unfold LIM at e2; omega) (by rw [t5]; omega)
      have hge := grownCap_ge w xs.length 0 e0
      obtain ⟨F', β', g1, g2⟩ := hr.newArr (d := id) hX (cur := news.toArray ++ Builtin.zeroCells zv.cells (grownCap w xs.length 0 e0 - xs.length)) (e := e0) (sz := ti.sz) (f := f) (l := xs) (cc := grownCap w xs.length 0 e0) hge
        (grownCap_le_maxLen w _ _ e0 (by unfold LIM at e2; simp only [maxLen]; omega)) e2 (by simp only [Array.size_append, List.size_toArray, size_zeroCells, k1, t8, ← Nat.add_mul]; congr 1; omega)
        (fun u hu' => by
          rcases Array.mem_append.1 hu' with h | h
          · exact k3 u (by simpa using h)
          · exact zeroCells_one t9 _ u h)
        (fun i p hp => by
          obtain ⟨m1, m2⟩ := k4 i p hp
          refine ⟨m1, fun j y hj => ?_⟩
          obtain ⟨cv, n1, n2⟩ := m2 j y hj
          refine ⟨cv, ?_, n2⟩
          have hlt := (List.getElem?_eq_some_iff.1 n1).1
          rw [Array.getElem?_append_left (by simpa using hlt)]
          simpa using n1)
        (w0 := w.drew) (drew_same w)
      refine StepTo.of_run ?_ hk g1 g2
      simp only [execOp, hop, resolve, invoke, builtin, Sem.run_bind, Sem.run_pure, Result.andThen_ok, List.map_toArray, List.map_cons, List.map_nil, hxv, e1, hrun]
      rfl
  · rcases hr.own.ent id _ ho with ⟨h, _⟩ | ⟨b', cur', m1, m2, m3, m4, m5, m6⟩
    · rw [h] at hb0; cases hb0
    rw [hb0] at m1; cases m1
    rw [k5] at m3; cases m3
    have hlt : b < w.heap.size := blk_lt k5
    -- what the new list needs of its block
    have inplace : ∀ (w' : World) (cur1 : Array Value), w'.heap[b]? = some (.cells cur1 e0 (0, 0)) → cur1.size = cur.size → (∀ b', b' < w.heap.size → b' ≠ b → w'.heap[b']? = w.heap[b']?) → w'.os = w.os → w'.tape = w.tape → OutLe w w' → w'.heap.size = w.heap.size →
        (∀ u, u ∈ cur1 → u.oneCell' = true) → l.length + xs.length ≤ cc0 →
        (∀ (i : Nat) p, (l ++ xs)[i]? = some p → (cells (f p)).length = ti.sz ∧ ∀ (j : Nat) (y : V), (cells (f p))[j]? = some y → ∃ cv, cur1[i * ti.sz + j]? = some cv ∧ RD w F cv y) →
        Rl P c z F (fun q => if q = id then some b else β q) (up1 s (id, true, .arr false e0 ti.sz f (l ++ xs))) tm w' ∧ RA w' F (fun q => if q = id then some b else β q) (up1 s (id, true, .arr false e0 ti.sz f (l ++ xs))).o (.slice (some ⟨b, 0, none⟩) (l ++ xs).length cc0) (.osl id) := by
      intro w' cur1 h1 h2 h3 h4 h5 h6 h7 h8 h9 h10
      have hFb := m2
      have hd := hd_of (w := w) (w' := w') (F := F) (F' := F) (fun b' hb' hn => h3 b' hb' (fun e => hn (e ▸ hFb))) (fun _ _ h => h) (by omega)
      refine ⟨hr.anew (X := id) hX (fun b' hb' hne => h3 b' hb' (fun e => hne (e ▸ hb0))) h4 h5 h6 (by omega) (fun _ h => h) (fun _ _ h => h) (fun b' h => by rw [h7]; exact hr.Flt b' h) (fun b' hb' => by cases hb'; exact .inr hb0) ?_, ?_⟩
      · refine .inr ⟨b, cur1, by simp, m2, h1, by rw [h2, k6]; exact Nat.mul_le_mul_right _ (by simpa using h9), h8, fun i p hp => ⟨(h10 i p hp).1, fun j y hj => ?_⟩⟩
        obtain ⟨cv, n1, n2⟩ := (h10 i p hp).2 j y hj
        exact ⟨cv, n1, hd _ _ n2⟩
      · exact .osl id b (by simp) false e0 ti.sz f (l ++ xs) cc0 (by simp [up1, olook, Ent.sub]) (by simpa using h9) k3 (by simpa using hlim) cur1 h1 (by rw [h2, k6])
    by_cases hxs : xs = []
    · subst hxs
      obtain ⟨r1, r2⟩ := inplace w cur k5 rfl (fun _ _ _ => rfl) rfl rfl ⟨rfl, Nat.le_refl _⟩ rfl m5 (by simpa using k2) (by simpa using m6)
      refine StepTo.of_run (w' := w) ?_ hk r1 r2
      have hrun : (Builtin.append_ #[t, t] op.type #[.slice (some ⟨b, 0, none⟩) l.length cc0, .slice ad 0 cc]).run P w = .ok (.slice (some ⟨b, 0, none⟩) l.length cc0) w := by
        have hs := sizeOf_run hr.tab hel w
        cases ad <;> simp [Builtin.append_, run_underlying hu, hs, Builtin.lenOf, Builtin.firstCells, loadCells, loadCellsFrom, storeCells, k2]
      simp only [List.length_nil] at e1
      simp [execOp, hop, resolve, invoke, builtin, hxv, e1, hrun]
    · obtain ⟨b2, off, news, rfl, n1, n2, n3, n4⟩ := e3.resolve_left hxs
      have hlen : 0 < xs.length := List.length_pos_iff.2 hxs
      by_cases hroom : l.length + xs.length ≤ cc0
      · have hfit : l.length * info.size + news.length ≤ cur.size := by rw [n1, t4, k6, ← Nat.add_mul]; exact Nat.mul_le_mul_right _ hroom
        have hrun := run_append_room (P := P) w t op.type e0 info hu t1 b l.length cc0 cur k5 ⟨b2, off, none⟩ xs.length cc news (by rw [n1, t4]) n2 n3 hroom hfit
        have hlen2 : l.length * info.size + news.length ≤ cur.toList.length := by simpa using hfit
        obtain ⟨r1, r2⟩ := inplace (w.setRow b (cur.toList.take (l.length * info.size) ++ news ++ cur.toList.drop (l.length * info.size + news.length)).toArray) _ (setRow_heap w b cur _ e0 (0, 0) k5) (by rw [List.size_toArray, seg_size _ _ _ hlen2]; simp)
          (fun b' _ hne => setRow_other w b b' _ hne) rfl rfl ⟨rfl, Nat.le_refl _⟩ (by simp) (seg_one m5 n3) hroom (fun i p hp => by
            rw [List.getElem?_append] at hp
            by_cases hi : i < l.length
            · rw [if_pos hi] at hp
              obtain ⟨q1, q2⟩ := m6 i p hp
              refine ⟨q1, fun j y hj => ?_⟩
              obtain ⟨cv, u1, u2⟩ := q2 j y hj
              have hjs : j < ti.sz := by rw [← q1]; exact (List.getElem?_eq_some_iff.1 hj).1
              have hlt2 : i * ti.sz + j < l.length * info.size := by
                have : (i + 1) * ti.sz ≤ l.length * ti.sz := Nat.mul_le_mul_right _ hi
                rw [Nat.add_mul, Nat.one_mul] at this; rw [t4]; omega
              refine ⟨cv, ?_, u2⟩
              rw [List.getElem?_toArray, seg_get _ _ _ _ hlen2, if_pos hlt2]
              simpa using u1
            · rw [if_neg hi] at hp
              obtain ⟨q1, q2⟩ := n4 (i - l.length) p hp
              refine ⟨q1, fun j y hj => ?_⟩
              obtain ⟨cv, u1, u2⟩ := q2 j y hj
              have hlt3 := (List.getElem?_eq_some_iff.1 u1).1
              have he : i * ti.sz + j - l.length * info.size = (i - l.length) * ti.sz + j := by
                rw [t4, Nat.sub_mul]
                have : l.length * ti.sz ≤ i * ti.sz := Nat.mul_le_mul_right _ (by omega)
                omega
              have hge : ¬ i * ti.sz + j < l.length * info.size := by
                rw [t4]
                have : l.length * ti.sz ≤ i * ti.sz := Nat.mul_le_mul_right _ (by omega)
                omega
              refine ⟨cv, ?_, u2⟩
              rw [List.getElem?_toArray, seg_get _ _ _ _ hlen2, if_neg hge, if_pos (by omega), he]
              exact u1)
        refine StepTo.of_run ?_ hk r1 r2
        simp only [execOp, hop, resolve, invoke, builtin, Sem.run_bind, Sem.run_pure, Result.andThen_ok, List.map_toArray, List.map_cons, List.map_nil, hxv, e1, hrun, List.length_append]
      · -- the list moves
        have hfit0 : l.length * ti.sz ≤ cur.size := m4
        have hrun := run_append_grow (P := P) w t op.type e0 info zv hu t1 t6 ⟨b, 0, none⟩ l.length cc0 (cur.toList.take (l.length * ti.sz)) (by simp; rw [t4]; omega) (fun j v hj => by
            rw [List.getElem?_take] at hj
            split at hj
            · rw [Addr.add_at]; simp only [World.cell?, k5, Nat.zero_add]; simpa using hj
            · cases hj) ⟨b2, off, none⟩ xs.length cc news (by rw [n1, t4]) n2 (by omega) (by unfold LIM at hlim; omega) (growslice_fits (by omega) (by rw [t5]; exact hb))
        have hge := grownCap_ge w (l.length + xs.length) cc0 e0
        have hold : (cur.toList.take (l.length * ti.sz)).length = l.length * ti.sz := by simp; omega
        obtain ⟨F', β', g1, g2⟩ := hr.newArr (d := id) hX (cur := (cur.toList.take (l.length * ti.sz)).toArray ++ news.toArray ++ Builtin.zeroCells zv.cells (grownCap w (l.length + xs.length) cc0 e0 - (l.length + xs.length))) (e := e0) (sz := ti.sz) (f := f) (l := l ++ xs)
          (cc := grownCap w (l.length + xs.length) cc0 e0) (by simpa using hge) (grownCap_le_maxLen w _ _ e0 (by unfold LIM at hlim; simp only [maxLen]; omega)) (by simpa using hlim)
          (by simp only [Array.size_append, List.size_toArray, size_zeroCells, hold, n1, t8, ← Nat.add_mul]; congr 1; omega)
          (fun u hu' => by
            rcases Array.mem_append.1 hu' with h | h
            · rcases Array.mem_append.1 h with h | h
              · exact m5 u (by
                  have := List.mem_of_mem_take (by simpa using h : u ∈ cur.toList.take (l.length * ti.sz))
                  simpa using this)
              · exact n3 u (by simpa using h)
            · exact zeroCells_one t9 _ u h)
          (fun i p hp => by
            rw [List.getElem?_append] at hp
            by_cases hi : i < l.length
            · rw [if_pos hi] at hp
              obtain ⟨q1, q2⟩ := m6 i p hp
              refine ⟨q1, fun j y hj => ?_⟩
              obtain ⟨cv, u1, u2⟩ := q2 j y hj
              have hjs : j < ti.sz := by rw [← q1]; exact (List.getElem?_eq_some_iff.1 hj).1
              have hlt2 : i * ti.sz + j < l.length * ti.sz := by
                have : (i + 1) * ti.sz ≤ l.length * ti.sz := Nat.mul_le_mul_right _ hi
                rw [Nat.add_mul, Nat.one_mul] at this; omega
              refine ⟨cv, ?_, u2⟩
              rw [Array.getElem?_append_left (by simp; omega), Array.getElem?_append_left (by simp; omega)]
              simp [List.getElem?_take, hlt2, u1]
            · rw [if_neg hi] at hp
              obtain ⟨q1, q2⟩ := n4 (i - l.length) p hp
              refine ⟨q1, fun j y hj => ?_⟩
              obtain ⟨cv, u1, u2⟩ := q2 j y hj
              have hlt3 := (List.getElem?_eq_some_iff.1 u1).1
              have hle : l.length * ti.sz ≤ i * ti.sz := Nat.mul_le_mul_right _ (by omega)
              have he : i * ti.sz + j - l.length * ti.sz = (i - l.length) * ti.sz + j := by rw [Nat.sub_mul]; omega
              refine ⟨cv, ?_, u2⟩
              rw [Array.getElem?_append_left (by simp [hold]; omega), Array.getElem?_append_right (by simp [hold]; omega)]
              simp only [List.size_toArray, hold, he, List.getElem?_toArray]
              exact u1)
          (w0 := w.drew) (drew_same w)
        refine StepTo.of_run ?_ hk g1 g2
        simp only [execOp, hop, resolve, invoke, builtin, Sem.run_bind, Sem.run_pure, Result.andThen_ok, List.map_toArray, List.map_cons, List.map_nil, hxv, e1, hrun, List.length_append]
        rfl

end
end Go.Vg
