/- The conditions suffice: reading, slicing, making, appending, calling. -/
import Derived.Test.YtnapnedfhimikaaDoorVgJ
set_option maxRecDepth 4000
set_option linter.all false
set_option linter.unusedVariables false
set_option linter.unusedSimpArgs false
namespace Go.Vg
open Go

section
variable {P : Program} {c : Ctx} {z : From} {F : Nat → Prop} {β : Bt} {s : St} {tm : Array Value} {w : World} {a : Act} {op : Oper} {K : Out → Prop}

theorem step_eload (ha : a.tmps = tm) (hr : Rl P c z F β s tm w) {im : List (Nat × Bool)} (him : ∀ t b, (t, b) ∈ im → tm.getD t undef = .bool b) {t : TypeId} {x : Operand} {ti : TI} {id off : Nat} {ix : IE} (hop : op.op = .load t x)
    (ht : tlook c.T t = some ti) (hx : res s.e im (evalO c s.e x) = .eptr id ix off) {fx : Bool} {e : TypeId} {sz : Nat} {α : Type} {f : α → V} {l : List α} (ho : olook s.o id = some (.arr fx e sz f l))
    (hk : EloadP f l ix (fun p => match loadX ti ((cells (f p)).drop off) with
      | some v => K ⟨v, [], []⟩
      | none => False)) : StepTo P c z s tm w a op K := by
  have hxx := res_ra ha hr.toRel him x
  rw [hx] at hxx
  obtain ⟨b, fx1, e1, sz1, n, α1, f1, l1, g1, g2, g3, g4, g5⟩ := RA.of_eptr hxx
  rw [ho] at g2
  simp only [Option.some.injEq, Ent.arr.injEq] at g2
  obtain ⟨rfl, rfl, rfl, rfl, hf, hll⟩ := g2
  have hf := eq_of_heq hf
  have hll := eq_of_heq hll
  subst hf; subst hll
  have hnat : ix.den.toNat = n := by rw [g3]; simp
  rcases hr.own.ent id _ ho with ⟨k1, _⟩ | ⟨b', cur, m1, m2, m3, m4, m5, m6⟩
  · rw [k1] at g1; cases g1
  rw [g1] at m1; cases m1
  obtain ⟨hk⟩ := hk
  have hpn : l[n]? = some l[n] := List.getElem?_eq_getElem g4
  obtain ⟨q1, q2⟩ := m6 n _ hpn
  have hwf : V.wf (f l[n]) := V.wf_of_cells fun j y hy => by
    obtain ⟨cv, _, hcv⟩ := q2 j y hy
    exact hcv.wf
  have hk' := hk l[n] (by rw [hnat]; exact hpn) hwf
  have hc : Cells w F β s.o b (n * sz) (cells (f l[n])) := fun j y hj => by
    obtain ⟨cv, k1, k2⟩ := q2 j y hj
    exact ⟨cv, by simp [World.cell?, m3, k1], m5 cv (Array.mem_of_getElem? k1), .d _ _ k2⟩
  split at hk'
  · rename_i v hv
    obtain ⟨val, r1, r2⟩ := loadX_run hr.tab ht (hc.drop off) hv
    exact StepTo.of_run (val := val) (w' := w) (by simp [execOp, hop, Instr.loadAt, Instr.sureAddr, g5, r1]) hk' hr r2
  · cases hk'

theorem slice_ty {T : Tab} (hT : TabOk P T) {t el : TypeId} {q1 q2 : Nat} {q3 : List V} (ht : tlook T t = some ⟨.slice el, q1, q2, q3⟩) : P.underlying t = some (.slice el) := by
  obtain ⟨i1, z1, d1, k1, k2, k3, k4⟩ := hT.ok _ _ ht
  cases d1 <;> simp only [TD.of, reduceCtorEq, TD.slice.injEq] at k3
  rw [k2, k3]
theorem arr_ty {T : Tab} (hT : TabOk P T) {t el : TypeId} {n q1 q2 : Nat} {q3 : List V} (ht : tlook T t = some ⟨.arr n el, q1, q2, q3⟩) : P.underlying t = some (.array n el) := by
  obtain ⟨i1, z1, d1, k1, k2, k3, k4⟩ := hT.ok _ _ ht
  cases d1 <;> simp only [TD.of, reduceCtorEq, TD.arr.injEq] at k3
  rw [k2, k3.1, k3.2]

theorem ieOf_ra {o : Own} {v : Value} {x : V} {ie : IE} (h : RA w F β o v x) (hx : ieOf x = some ie) : ∃ k, v = .int k ie.den ∧ k.has ie.den := by
  cases x <;> simp only [ieOf, Option.some.injEq, reduceCtorEq] at hx
  subst hx
  exact ⟨_, RA.of_int h⟩

theorem indexAt_slice {t el : TypeId} (hu : P.underlying t = some (.slice el)) {T : Tab} (hT : TabOk P T) {ti : TI} (hel : tlook T el = some ti) {k : IntKind} {i : Int} {n len cap : Nat} {b off : Nat} (hi : i = (n : Int)) (hn : n < len) :
    (Instr.indexAt t (.slice (some ⟨b, off, none⟩) len cap) (.int k i)).run P w = .ok (.pointer (some ⟨b, off + n * ti.sz, none⟩)) w := by
  subst hi
  simp [Instr.indexAt, asIntOf, run_underlying hu, hn, sizeOf_run hT hel, Addr.add_at]

theorem elem_rd {v : Value} {x : V} {sz : Nat} {es : List V} (h : RD w F v x) (hx : x.elems = some (sz, es)) {n : Nat} {e : V} (he : es[n]? = some e) : ∃ b off cc, v = .slice (some ⟨b, off, none⟩) es.length cc ∧ RD w F (.pointer (some ⟨b, off + n * sz, none⟩)) (.rptr (cells e)) := by
  cases h with
  | nilsl x sz' hx' => rw [hx] at hx'; cases hx'; simp at he
  | slice x sz' es' hx' hnn ad cc hc hl hs hF hb hsz cv hone hcv hr =>
    rw [hx] at hx'; cases hx'
    obtain ⟨b, off, spot⟩ := ad
    have hne : es ≠ [] := by intro h; rw [h] at he; simp at he
    have hs := hs hne
    simp only at hs; subst hs
    refine ⟨b, off, cc, rfl, .rptr _ _ rfl (hF hne) (hb hne) (fun j => cv n j) (fun j y hj => hone n e he j y hj) (fun j y hj => hcv n e he j y hj) (fun j y hj => hr n e he j y hj)⟩
  | _ => simp [V.elems] at hx

theorem rd_wf_elem {v : Value} {x : V} {sz : Nat} {es : List V} (h : RD w F v x) (hx : x.elems = some (sz, es)) {n : Nat} {e : V} (he : es[n]? = some e) : V.wf e := by
  obtain ⟨_, _, _, _, h2⟩ := elem_rd h hx he
  have := h2.wf
  simp only [V.wf, V.wfl_iff] at this
  exact V.wf_of_cells fun j y hj => this y (List.mem_of_getElem? hj)

theorem step_elem (ha : a.tmps = tm) (hr : Rl P c z F β s tm w) {im : List (Nat × Bool)} (him : ∀ t b, (t, b) ∈ im → tm.getD t undef = .bool b) {t el : TypeId} {x y : Operand} {ti : TI} {ie : IE} {q1 q2 : Nat} {q3 : List V} (hop : op.op = .indexAddr t x y)
    (ht : tlook c.T t = some ⟨.slice el, q1, q2, q3⟩) (hi : ieOf (res s.e im (evalO c s.e y)) = some ie) (hel : tlook c.T el = some ti) {v : V} {es : List V} (hx : res s.e im (evalO c s.e x) = v) (hv : v.elems = some (ti.sz, es)) {n : Nat} {e : V} (hn : ie.den = (n : Int)) (he : es[n]? = some e)
    {J : V → Prop} (hk : J (.rptr (cells e))) : YieldTo P s w F β a op J := by
  have hxx := res_ra ha hr.toRel him x
  rw [hx] at hxx
  obtain ⟨k, hy, _⟩ := ieOf_ra (res_ra ha hr.toRel him y) hi
  obtain ⟨b, off, cc, h1, h2⟩ := elem_rd (RA.of_elems hxx hv) hv he
  have hlt : n < es.length := (List.getElem?_eq_some_iff.1 he).1
  refine ⟨.pointer (some ⟨b, off + n * ti.sz, none⟩), _, fun w' => ?_, (.d _ _ h2), hk⟩
  simp only [execOp, hop, Sem.run_bind, h1, hy, indexAt_slice (slice_ty hr.tab ht) hr.tab hel hn hlt, Result.andThen_ok, Sem.run_pure]

theorem step_oelem (ha : a.tmps = tm) (hr : Rl P c z F β s tm w) {im : List (Nat × Bool)} (him : ∀ t b, (t, b) ∈ im → tm.getD t undef = .bool b) {t el : TypeId} {x y : Operand} {ti : TI} {ie : IE} {q1 q2 : Nat} {q3 : List V} (hop : op.op = .indexAddr t x y)
    (ht : tlook c.T t = some ⟨.slice el, q1, q2, q3⟩) (hi : ieOf (res s.e im (evalO c s.e y)) = some ie) (hel : tlook c.T el = some ti) {id : Nat} (hx : res s.e im (evalO c s.e x) = .osl id) {fx : Bool} {e : TypeId} {α : Type} {f : α → V} {l : List α} (ho : olook s.o id = some (.arr fx e ti.sz f l))
    (h0 : 0 ≤ ie.den) (h1 : ie.den < l.length) {J : V → Prop} (hk : J (.eptr id ie 0)) : YieldTo P s w F β a op J := by
  have hxx := res_ra ha hr.toRel him x
  rw [hx] at hxx
  obtain ⟨k, hy, _⟩ := ieOf_ra (res_ra ha hr.toRel him y) hi
  obtain ⟨fx1, e1, sz1, α1, f1, l1, g1, g2⟩ := RA.of_osl hxx
  rw [ho] at g1
  simp only [Option.some.injEq, Ent.arr.injEq] at g1
  obtain ⟨rfl, rfl, rfl, rfl, hf, hl⟩ := g1
  have hf := eq_of_heq hf
  have hl := eq_of_heq hl
  subst hf; subst hl
  obtain ⟨n, hn⟩ : ∃ n : Nat, ie.den = n := ⟨ie.den.toNat, by omega⟩
  have hlt : n < l.length := by omega
  rcases g2 with ⟨rfl, _⟩ | ⟨b, cc, cur, m1, m2, m3, m4, m5, m6, m7⟩
  · simp at hlt
  · refine ⟨.pointer (some ⟨b, 0 + n * ti.sz, none⟩), _, fun w' => ?_, ?_, hk⟩
    · simp only [execOp, hop, Sem.run_bind, m2, hy, indexAt_slice (slice_ty hr.tab ht) hr.tab hel hn hlt, Result.andThen_ok, Sem.run_pure]
    · rw [Nat.zero_add]
      exact .eptr id 0 b m1 fx e ti.sz ie n f l ho hn hlt

theorem natOf_den {ie : IE} {n : Nat} (h : natOf ie = some n) : ie.den = (n : Int) := by
  unfold natOf at h
  split at h
  · split at h
    · cases h; rfl
    · cases h
  · cases h

/-- An array's element, by its address. -/
theorem step_aelem (ha : a.tmps = tm) (hr : Rl P c z F β s tm w) {im : List (Nat × Bool)} (him : ∀ t b, (t, b) ∈ im → tm.getD t undef = .bool b) {t el : TypeId} {x y : Operand} {ti : TI} {ie : IE} {len q1 q2 : Nat} {q3 : List V} (hop : op.op = .indexAddr t x y)
    (ht : tlook c.T t = some ⟨.arr len el, q1, q2, q3⟩) (hi : ieOf (res s.e im (evalO c s.e y)) = some ie) (hel : tlook c.T el = some ti) {xs ys : List V} (hx : res s.e im (evalO c s.e x) = .rptr xs) {n : Nat} (hn : ie.den = (n : Int)) (hlt : n < len)
    (hys : ∀ (j : Nat) (v : V), ys[j]? = some v → xs[n * ti.sz + j]? = some v) {J : V → Prop} (hk : J (.rptr ys)) : YieldTo P s w F β a op J := by
  have hxx := RA.of_rptr (hx ▸ res_ra ha hr.toRel him x)
  obtain ⟨k, hy, _⟩ := ieOf_ra (res_ra ha hr.toRel him y) hi
  obtain ⟨ad, had⟩ := rptr_val hxx
  have hxx' := hxx
  rw [had] at hxx'
  obtain ⟨b, off, hba, hF, hb, hc⟩ := Cells.of_rptr (o := s.o) (β := β) hxx'
  simp only [Option.some.injEq] at hba
  subst hba
  have hu := arr_ty hr.tab ht
  refine ⟨.pointer (some ⟨b, off + n * ti.sz, none⟩), _, fun w' => ?_, (.d _ _ ?_), hk⟩
  · have h1 : (0 : Int) ≤ ie.den ∧ ie.den < len := by omega
    have h2 : ie.den.toNat = n := by omega
    simp [execOp, hop, Instr.indexAt, asIntOf, hy, had, run_underlying hu, Instr.sureAddr, h1, h2, sizeOf_run hr.tab hel, Addr.add_at]
  · generalize hv : Value.pointer (some (⟨b, off, none⟩ : Addr)) = v at hxx'
    generalize hq : V.rptr xs = xx at hxx'
    cases hxx' with
    | rptr a' xs' hs hF hb cv hone hcv hrr =>
      cases hq; cases hv
      exact .rptr _ _ rfl hF hb (fun j => cv (n * ti.sz + j)) (fun j y hj => hone _ y (hys j y hj)) (fun j y hj => by rw [← hcv _ y (hys j y hj)]; simp [Nat.add_assoc]) (fun j y hj => hrr _ y (hys j y hj))
    | nilsl => cases hv
    | slice => cases hv
    | _ => cases hq
theorem step_velem (ha : a.tmps = tm) (hr : Rl P c z F β s tm w) {im : List (Nat × Bool)} (him : ∀ t b, (t, b) ∈ im → tm.getD t undef = .bool b) {t el : TypeId} {x y : Operand} {ti : TI} {ie : IE} {len q1 q2 : Nat} {q3 : List V} (hop : op.op = .indexAddr t x y)
    (ht : tlook c.T t = some ⟨.arr len el, q1, q2, q3⟩) (hi : ieOf (res s.e im (evalO c s.e y)) = some ie) (hel : tlook c.T el = some ti) {id off : Nat} (hx : res s.e im (evalO c s.e x) = .ptr id off) {n : Nat} (hn : ie.den = (n : Int)) (hlt : n < len)
    {J : V → Prop} (hk : J (.ptr id (off + n * ti.sz))) : YieldTo P s w F β a op J := by
  have hxx := res_ra ha hr.toRel him x
  rw [hx] at hxx
  obtain ⟨k, hy, _⟩ := ieOf_ra (res_ra ha hr.toRel him y) hi
  obtain ⟨b, cs, g1, g2, g3⟩ := RA.of_ptr hxx
  have hu := arr_ty hr.tab ht
  refine ⟨.pointer (some ⟨b, off + n * ti.sz, none⟩), _, fun w' => ?_, (.ptr _ _ b g1 cs g2), hk⟩
  have h1 : (0 : Int) ≤ ie.den ∧ ie.den < len := by omega
  have h2 : ie.den.toNat = n := by omega
  simp [execOp, hop, Instr.indexAt, asIntOf, hy, g3, run_underlying hu, Instr.sureAddr, h1, h2, sizeOf_run hr.tab hel, Addr.add_at]

/-- A part of a slice that nobody writes. -/
theorem sub_rd {v : Value} {sz : Nat} {α : Type} {f : α → V} {l : List α} (h : RD w F v (.sl sz f l)) (lo hi : Nat) (h1 : lo ≤ hi) (h2 : hi ≤ l.length) : ∃ ad cc, v = .slice ad l.length cc ∧ l.length ≤ cc ∧ True ∧
    RD w F (.slice (if cc = lo then ad else ad.map (·.add (lo * sz))) (hi - lo) (cc - lo)) (.sl sz f ((l.drop lo).take (hi - lo))) := by
  have hlen : ((l.drop lo).take (hi - lo)).length = hi - lo := by simp; omega
  generalize hx : V.sl sz f l = x at h
  cases h with
  | nilsl x sz' hx' =>
    subst hx
    simp only [V.elems, Option.some.injEq, Prod.mk.injEq, List.map_eq_nil_iff] at hx'
    obtain ⟨rfl, rfl⟩ := hx'
    refine ⟨none, 0, rfl, by simp, by simp, ?_⟩
    have h1 : lo = 0 := by simp at h2; omega
    have h2 : hi = 0 := by simpa using h2
    subst h1; subst h2
    simp only [Nat.sub_self, if_true]
    exact .nilsl _ sz (by simp [V.elems])
  | slice x sz' es hx' hnn ad cc hc hl hs hF hb hsz cv hone hcv hr =>
    subst hx
    simp only [V.elems, Option.some.injEq, Prod.mk.injEq] at hx'
    obtain ⟨rfl, rfl⟩ := hx'
    have hc' : l.length ≤ cc := by simpa using hc
    refine ⟨some ad, cc, by simp, by simpa using hc, trivial, ?_⟩
    have hget : ∀ (i : Nat) (e : V), (((l.drop lo).take (hi - lo)).map f)[i]? = some e → (l.map f)[lo + i]? = some e := fun i e h => by
      rw [List.getElem?_map, Option.map_eq_some_iff] at h
      obtain ⟨p, hp, rfl⟩ := h
      rw [List.getElem?_take] at hp
      split at hp
      · rw [List.getElem?_drop] at hp; simp [hp]
      · cases hp
    have e1 : hi - lo = (((l.drop lo).take (hi - lo)).map f).length := by simp; omega
    by_cases hcl : cc = lo
    · have h0 : hi - lo = 0 := by omega
      have hnil : (l.drop lo).take (hi - lo) = [] := by simp [h0]
      rw [if_pos hcl, hnil, h0]
      exact .slice _ sz [] (by simp [V.elems]) (by simp) ad (cc - lo) (by simp) (by simp) (by simp) (by simp) (by simp) (by simp) (fun _ _ => undef) (by simp) (by simp) (by simp)
    · by_cases hnl : l = []
      · subst hnl
        have h2' : hi = 0 := by simpa using h2
        subst h2'
        have h1' : lo = 0 := by omega
        subst h1'
        rw [if_neg hcl]
        simp only [Nat.zero_mul, Option.map_some, Nat.sub_self, List.drop_nil, List.take_nil, Nat.sub_zero]
        exact .slice _ sz [] (by simp [V.elems]) (by simp) (ad.add 0) cc (by simp) (by simp) (by simp) (by simp) (by simp) (by simp) (fun _ _ => undef) (by simp) (by simp) (by simp)
      obtain ⟨b, off, spot⟩ := ad
      have hs := hs (by simpa using hnl)
      simp only at hs; subst hs
      rw [if_neg hcl, Option.map_some, Addr.add_at]
      have key : RD w F (.slice (some ⟨b, off + lo * sz, none⟩) (((l.drop lo).take (hi - lo)).map f).length (cc - lo)) (.sl sz f ((l.drop lo).take (hi - lo))) := by
        have hne : ((l.drop lo).take (hi - lo)).map f ≠ [] → l.map f ≠ [] := fun h h' => h (by
          have : l = [] := by simpa using h'
          simp [this])
        refine .slice _ sz _ (by simp [V.elems]) (by simp) ⟨b, off + lo * sz, none⟩ (cc - lo) (by rw [← e1]; omega) (by rw [← e1]; simp only [List.length_map] at hl; omega) (fun _ => rfl) (fun h => hF (hne h)) (fun h => hb (hne h))
          (fun i e h => hsz _ e (hget i e h)) (fun i j => cv (lo + i) j) (fun i e h j y hj => hone _ e (hget i e h) j y hj) (fun i e h j y hj => ?_) (fun i e h j y hj => hr _ e (hget i e h) j y hj)
        rw [← hcv _ e (hget i e h) j y hj, Nat.add_mul]
        simp [Nat.add_assoc]
      rwa [← e1] at key
  | _ => cases hx

theorem sliceBound_run {v : Value} {k : IntKind} {n y : Nat} (hv : v = .int k (n : Int)) (h : n ≤ y) (code : BoundsCode) : (Instr.sliceBound v y code).run P w = .ok n w := by
  subst hv
  have h' : (n : Int) ≤ (y : Int) := by omega
  simp [Instr.sliceBound, asIntOf, h]

theorem sliceAt_run {t el : TypeId} (hu : P.underlying t = some (.slice el)) {T : Tab} (hT : TabOk P T) {ti : TI} (hel : tlook T el = some ti) {ad : Option Addr} {len cap : Nat} {lo hi : Option Value} {l h : Nat} (hlo : (lo = none ∧ l = 0) ∨ ∃ k, lo = some (.int k (l : Int))) (hhi : (hi = none ∧ h = len) ∨ ∃ k, hi = some (.int k (h : Int)))
    (h1 : l ≤ h) (h2 : h ≤ len) (h3 : len ≤ cap) : (Instr.sliceAt t (.slice ad len cap) lo hi none).run P w = .ok (.slice (if cap = l then ad else ad.map (·.add (l * ti.sz))) (h - l) (cap - l)) w := by
  have hb : (Instr.sliceBounds true len cap lo hi none).run P w = .ok (l, h, cap) w := by
    unfold Instr.sliceBounds
    rcases hhi with ⟨rfl, rfl⟩ | ⟨k, rfl⟩ <;> rcases hlo with ⟨rfl, rfl⟩ | ⟨k', rfl⟩
    · simp
    · simp [sliceBound_run (P := P) (w := w) rfl h1]
    · simp [sliceBound_run (P := P) (w := w) rfl (Nat.le_trans h2 h3)]
    · simp [sliceBound_run (P := P) (w := w) rfl h1, sliceBound_run (P := P) (w := w) rfl (Nat.le_trans h2 h3)]
  simp [Instr.sliceAt, run_underlying hu, Instr.slice, hb, sizeOf_run hT hel]

end
end Go.Vg
