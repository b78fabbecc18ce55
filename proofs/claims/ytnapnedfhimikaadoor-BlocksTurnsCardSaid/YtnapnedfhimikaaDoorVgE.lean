/- The evaluation of operations that only compute is right. -/
import Derived.Test.YtnapnedfhimikaaDoorVgD
import Derived.Laws.Cover3
import Derived.Laws.Small
set_option maxRecDepth 4000
set_option linter.all false
set_option linter.unusedVariables false
set_option linter.unusedSimpArgs false
namespace Go.Vg
open Go

section
variable {P : Program} {c : Ctx} {w : World} {F : Nat → Prop} {β : Bt} {o : Own}

theorem isAgg_run {T : Tab} (hT : TabOk P T) {t : TypeId} {ti : TI} (h : tlook T t = some ti) (w : World) : (isAgg t).run P w = .ok ti.d.isAgg w := by
  obtain ⟨info, zv, desc, h1, h2, h3, h4, h5, h6, h7, h8, h9, h10⟩ := hT.ok t ti h
  simp only [isAgg, Sem.run_bind, run_underlying h2, Result.andThen_ok]
  rw [← h3]
  cases desc <;> simp [TD.of, TD.isAgg]
theorem sizeOf_run {T : Tab} (hT : TabOk P T) {t : TypeId} {ti : TI} (h : tlook T t = some ti) (w : World) : (sizeOf t).run P w = .ok ti.sz w := by
  obtain ⟨info, zv, desc, h1, h2, h3, h4, h5, h6, h7, h8, h9, h10⟩ := hT.ok t ti h
  simp [sizeOf, typeInfo, h1, h4]

theorem Addr.add_at (b o j : Nat) : (⟨b, o, none⟩ : Addr).add j = ⟨b, o + j, none⟩ := by
  unfold Addr.add; split <;> simp_all

/-- Memory from a place on holds these cells. -/
def Cells (w : World) (F : Nat → Prop) (β : Bt) (o : Own) (b off : Nat) (xs : List V) : Prop :=
  ∀ (j : Nat) (y : V), xs[j]? = some y → ∃ cv, w.cell? ⟨b, off + j, none⟩ = some cv ∧ cv.oneCell' = true ∧ RA w F β o cv y

theorem Cells.drop {b off : Nat} {xs : List V} (h : Cells w F β o b off xs) (k : Nat) : Cells w F β o b (off + k) (xs.drop k) := by
  intro j y hj
  rw [List.getElem?_drop] at hj
  obtain ⟨cv, h1, h2, h3⟩ := h _ y hj
  exact ⟨cv, by rw [Nat.add_assoc]; exact h1, h2, h3⟩

theorem loadX_run {T : Tab} (hT : TabOk P T) {t : TypeId} {ti : TI} (ht : tlook T t = some ti) {b off : Nat} {xs : List V} (h : Cells w F β o b off xs) {z : V} (hz : loadX ti xs = some z) :
    ∃ v, (∀ w' : World, w'.heap[b]? = w.heap[b]? → (loadVar t ⟨b, off, none⟩).run P w' = .ok v w') ∧ RA w F β o v z := by
  unfold loadX at hz
  unfold loadVar
  have hcell : ∀ (w' : World) (j : Nat), w'.heap[b]? = w.heap[b]? → w'.cell? ⟨b, j, none⟩ = w.cell? ⟨b, j, none⟩ := fun w' j h => by simp only [World.cell?, h]
  simp only [Sem.run_bind, isAgg_run hT ht, Result.andThen_ok]
  cases ha : ti.d.isAgg with
  | true =>
    simp only [ha, cond_true] at hz
    obtain ⟨hl, rfl⟩ := bif_some hz
    have hl := leN_true hl
    have hf : ∃ f : Nat → Value, ∀ j, j < ti.sz → w.cell? ⟨b, off + j, none⟩ = some (f j) ∧ (f j).oneCell' = true ∧ ∀ y, xs[j]? = some y → RA w F β o (f j) y := by
      refine ⟨fun j => (w.cell? ⟨b, off + j, none⟩).getD undef, fun j hj => ?_⟩
      have hj' : j < xs.length := by omega
      obtain ⟨cv, h1, h2, h3⟩ := h j xs[j] (List.getElem?_eq_getElem hj')
      refine ⟨by simp [h1], by simp [h1, h2], fun y hy => ?_⟩
      rw [List.getElem?_eq_getElem hj'] at hy
      simp only [h1, Option.getD_some]
      simp only [Option.some.injEq] at hy
      exact hy ▸ h3
    obtain ⟨f, hf⟩ := hf
    have hr := fun (w' : World) (hw : w'.heap[b]? = w.heap[b]?) => run_loadCells (P := P) (w := w') ⟨b, off, none⟩ ti.sz f (fun j hj => by rw [Addr.add_at, hcell w' _ hw]; exact (hf j hj).1)
    simp only [if_true, Sem.run_bind, sizeOf_run hT ht, Result.andThen_ok]
    refine ⟨_, fun w' hw => by rw [hr w' hw]; rfl, .agg _ _ ?_ ?_ ?_⟩
    · simp [List.length_take]; omega
    · intro v hv
      simp at hv
      obtain ⟨j, hj, rfl⟩ := hv
      exact (hf j hj).2.1
    · intro i v y hi hy
      have hlt : i < ti.sz := by
        rcases Nat.lt_or_ge i ti.sz with h | h
        · exact h
        · simp [Nat.not_lt.2 h] at hi
      simp [hlt] at hi
      rw [List.getElem?_take, if_pos hlt] at hy
      exact hi ▸ (hf i hlt).2.2 y hy
  | false =>
    simp only [ha, cond_false] at hz
    cases xs with
    | nil => cases hz
    | cons x r =>
      simp only [Option.some.injEq] at hz
      subst hz
      obtain ⟨cv, h1, h2, h3⟩ := h 0 x rfl
      refine ⟨cv, fun w' hw => ?_, h3⟩
      simp only [Bool.false_eq_true, if_false, run_load]
      rw [show (⟨b, off, none⟩ : Addr) = ⟨b, off + 0, none⟩ from rfl, hcell w' _ hw, h1]

theorem part_run {T : Tab} (hT : TabOk P T) {t : TypeId} {ti : TI} (ht : tlook T t = some ti) {cs : Array Value} {xs : List V} (hs : cs.size = xs.length) (hone : ∀ c, c ∈ cs → c.oneCell' = true)
    (h : ∀ (i : Nat) (c : Value) (x : V), cs[i]? = some c → xs[i]? = some x → RA w F β o c x) {off : Nat} {z : V} (hz : loadX ti (xs.drop off) = some z) :
    ∃ v, (∀ w', (part t cs off).run P w' = .ok v w') ∧ RA w F β o v z := by
  unfold loadX at hz
  unfold part
  simp only [Sem.run_bind, isAgg_run hT ht, Result.andThen_ok]
  cases ha : ti.d.isAgg with
  | true =>
    simp only [ha, cond_true] at hz
    obtain ⟨hl, rfl⟩ := bif_some hz
    have hl := leN_true hl
    simp only [List.length_drop] at hl
    simp only [if_true, Sem.run_bind, sizeOf_run hT ht, Result.andThen_ok, Sem.run_pure]
    refine ⟨_, fun w' => rfl, .agg _ _ ?_ ?_ ?_⟩
    · simp [List.length_take]; omega
    · intro v hv
      rw [Array.mem_iff_getElem] at hv
      obtain ⟨j, hj, rfl⟩ := hv
      exact hone _ (by simp)
    · intro i v y hi hy
      rw [Array.getElem?_extract] at hi
      split at hi
      · rw [List.getElem?_take] at hy
        split at hy
        · rw [List.getElem?_drop] at hy
          exact h _ v y hi hy
        · cases hy
      · cases hi
  | false =>
    simp only [ha, cond_false] at hz
    cases hx : xs.drop off with
    | nil => rw [hx] at hz; cases hz
    | cons x r =>
      rw [hx] at hz
      simp only [Option.some.injEq] at hz
      subst hz
      have hx0 : xs[off]? = some x := by
        have := congrArg (fun l => l[0]?) hx
        simpa [List.getElem?_drop] using this
      have hlt : off < cs.size := by rw [hs]; exact (List.getElem?_eq_some_iff.1 hx0).1
      have hc : cs[off]? = some cs[off] := Array.getElem?_eq_getElem hlt
      simp only [Bool.false_eq_true, if_false, hc, Sem.run_pure]
      exact ⟨_, fun w' => rfl, h off _ _ hc hx0⟩

theorem Cells.of_rptr {a : Option Addr} {xs : List V} (h : RD w F (.pointer a) (.rptr xs)) : ∃ b off, a = some ⟨b, off, none⟩ ∧ ¬ F b ∧ b < w.heap.size ∧ Cells w F β o b off xs := by
  generalize hv : Value.pointer a = v at h
  generalize hx : V.rptr xs = x at h
  cases h with
  | rptr a' xs' hs hF hb cv hone hcv hr =>
    cases hx; cases hv
    obtain ⟨b, off, spot⟩ := a'
    simp only at hs
    subst hs
    exact ⟨b, off, rfl, hF, hb, fun j y hj => ⟨cv j, hcv j y hj, hone j y hj, .d _ _ (hr j y hj)⟩⟩
  | nilsl x sz hx' => cases hv
  | slice => cases hv
  | _ => cases hx
theorem rptr_val {v : Value} {xs : List V} (h : RD w F v (.rptr xs)) : ∃ a, v = .pointer (some a) := by
  generalize hx : V.rptr xs = x at h
  cases h with
  | rptr a' xs' hs hF hb cv hone hcv hr => exact ⟨_, rfl⟩
  | nilsl x sz hx' => subst hx; simp [V.elems] at hx'
  | slice x sz es hx' => subst hx; simp [V.elems] at hx'
  | _ => cases hx

theorem Cells.of_var {id : Nat} {cs : List V} (ho : OwnOk w F β o) (h : olook o id = some (.var cs)) : ∃ b, β id = some b ∧ Cells w F β o b 0 cs := by
  obtain ⟨b, c, t, h1, h2, h3, h4, h5, h6⟩ := ho.ent id _ h
  refine ⟨b, h1, fun j y hj => ?_⟩
  have hlt : j < c.size := by rw [h4]; exact (List.getElem?_eq_some_iff.1 hj).1
  have hc : c[j]? = some c[j] := Array.getElem?_eq_getElem hlt
  exact ⟨c[j], by simp [World.cell?, h3, hc], h5 _ (by simp), h6 j _ y hc hj⟩

theorem slice_val {v : Value} {x : V} {sz : Nat} {es : List V} (h : RD w F v x) (hx : x.elems = some (sz, es)) : ∃ ad c, v = .slice ad es.length c ∧ es.length ≤ LIM := by
  cases h with
  | nilsl x sz' hx' => rw [hx] at hx'; cases hx'; exact ⟨none, 0, rfl, by simp⟩
  | slice x sz' es' hx' hnn a c hc hl => rw [hx] at hx'; cases hx'; exact ⟨some a, c, rfl, hl⟩
  | _ => simp [V.elems] at hx
theorem has_len {n : Nat} (h : n ≤ LIM) : IntKind.i64.has (n : Int) := by
  rw [has_iff]; simp only [lo, hi]; unfold LIM at h; omega

/-- The operation has this value, and does nothing else. -/
def Yields (P : Program) (a : Act) (op : Oper) (w : World) (v : Value) : Prop := (execOp a.eval op).run P w = .ok (.value v) w

theorem fieldAt_run {T : Tab} (hT : TabOk P T) {t ft : TypeId} {ti : TI} {fs : List (Nat × TypeId)} {x1 x2 : Nat} {x3 : List V} (ht : tlook T t = some ⟨.struct fs, x1, x2, x3⟩) {i off : Nat} (hi : nthf fs i = some (off, ft)) (hf : tlook T ft = some ti) (hz : 0 < ti.sz)
    (b o : Nat) (w : World) : (Instr.fieldAt t (.pointer (some ⟨b, o, none⟩)) i).run P w = .ok (.pointer (some ⟨b, o + off, none⟩)) w := by
  obtain ⟨info, zv, desc, h1, h2, h3, h4, h5, h6, h7, h8, h9, h10⟩ := hT.ok t _ ht
  cases desc <;> simp only [TD.of, reduceCtorEq] at h3
  rename_i fields
  simp only [TD.struct.injEq] at h3
  rw [nthf_eq, ← h3] at hi
  simp only [List.getElem?_map, Option.map_eq_some_iff, Prod.mk.injEq] at hi
  obtain ⟨f, hf1, rfl, rfl⟩ := hi
  have hf2 : fields[i]? = some f := by simpa using hf1
  have hz' : ¬ ti.sz = 0 := by omega
  simp [Instr.fieldAt, run_underlying h2, hf2, Instr.sureAddr, fieldPlace, sizeOf_run hT hf, hz', Addr.add_at]

theorem RA.of_nilsl {w : World} {F : Nat → Prop} {β : Bt} {o : Own} {v : Value} (h : RA w F β o v .nilsl) : v = .slice none 0 0 := by
  generalize hx : V.nilsl = x at h
  cases h with
  | d v x h =>
    cases h with
    | nilsl x sz hx => rfl
    | slice x sz es hx' hnn => exact absurd hx.symm hnn
    | _ => cases hx
  | _ => cases hx

theorem andB_den (a b : BE) : (andB a b).den = (a.den && b.den) := by
  unfold andB; split <;> simp [BE.den]
theorem eqA_run {o : Own} : ∀ {ks : List SK} {xs ys : List V} {e : BE}, eqA ks xs ys = some e → ∀ {as bs : List Value}, as.length = xs.length → bs.length = ys.length →
    (∀ (i : Nat) (v : Value) (x : V), as[i]? = some v → xs[i]? = some x → RA w F β o v x) → (∀ (i : Nat) (v : Value) (x : V), bs[i]? = some v → ys[i]? = some x → RA w F β o v x) → scals ks as bs = true ∧ vEqs as bs = e.den
  | k :: ks, x :: r, y :: q, e, h, a :: as, b :: bs, h1, h2, h3, h4 => by
    have ha := h3 0 a x rfl rfl
    have hb := h4 0 b y rfl rfl
    have ih := fun e' (he : eqA ks r q = some e') => eqA_run he (as := as) (bs := bs) (by simpa using h1) (by simpa using h2) (fun i v x hv hx => h3 (i + 1) v x (by simpa using hv) (by simpa using hx)) (fun i v x hv hx => h4 (i + 1) v x (by simpa using hv) (by simpa using hx))
    simp only [eqA] at h
    split at h
    · obtain ⟨hk, h⟩ := bif_some2 h
      simp only [keq, decide_eq_true_eq] at hk
      split at h
      · rename_i e' he
        simp only [Option.some.injEq] at h; subst h
        obtain ⟨g1, g2⟩ := ih e' he
        obtain ⟨rfl, _⟩ := RA.of_int ha
        obtain ⟨rfl, _⟩ := RA.of_int hb
        subst hk
        exact ⟨by simp [scals, scal2, g1], by rw [andB_den, cmpI_den]; simp [vEqs, vEq, g2, cmpD]⟩
      · cases h
    · split at h
      · rename_i e' he
        simp only [Option.some.injEq] at h; subst h
        obtain ⟨g1, g2⟩ := ih e' he
        have h5 := RA.of_bool ha
        have h6 := RA.of_bool hb
        subst h5; subst h6
        exact ⟨by simp [scals, scal2, g1], by rw [andB_den]; simp [vEqs, vEq, g2, BE.den]⟩
      · cases h
    · split at h
      · rename_i e' he
        simp only [Option.some.injEq] at h; subst h
        obtain ⟨g1, g2⟩ := ih e' he
        obtain ⟨rfl, _⟩ := RA.of_str ha
        obtain ⟨rfl, _⟩ := RA.of_str hb
        have hl : ∀ l : List UInt8, (ByteArray.mk l.toArray).toList = l := fun l => ByteArray.toList_mk l
        exact ⟨by simp [scals, scal2, g1], by rw [andB_den]; simp [vEqs, vEq, g2, BE.den, hl]⟩
      · cases h
    · cases h
  | [], [], [], e, h, [], [], _, _, _, _ => by simp only [eqA, Option.some.injEq] at h; subst h; simp [scals, vEqs, BE.den]
  | _ :: _, _ :: _, _ :: _, _, _, [], _, h1, _, _, _ => by simp at h1
  | _ :: _, _ :: _, _ :: _, _, _, _ :: _, [], _, h2, _, _ => by simp at h2
  | [], [], [], _, _, _ :: _, _, h1, _, _, _ => by simp at h1
  | [], [], [], _, _, [], _ :: _, _, h2, _, _ => by simp at h2
  | [], _ :: _, _, _, h, _, _, _, _, _, _ => by simp [eqA] at h
  | [], [], _ :: _, _, h, _, _, _, _, _, _ => by simp [eqA] at h
  | _ :: _, [], _, _, h, _, _, _, _, _, _ => by simp [eqA] at h
  | _ :: _, _ :: _, [], _, h, _, _, _, _, _, _ => by simp [eqA] at h

theorem equalIn_func_nil {P : Program} {t : TypeId} {a1 a2 : Array TypeId} {a3 : Bool} (h : P.underlying t = some (.func a1 a2 a3)) (d : Nat) (f : Fn) (fs cs : Array Value) (w : World) : (Op.equalIn (d + 1) t (.func f fs cs) .nilFunc).run P w = .ok false w := by
  rw [Op.equalIn]; simp only [Sem.run_bind, run_underlying h, Result.andThen_ok, Sem.run_pure]
theorem equalIn_nil_nil {P : Program} {t : TypeId} {a1 a2 : Array TypeId} {a3 : Bool} (h : P.underlying t = some (.func a1 a2 a3)) (d : Nat) (w : World) : (Op.equalIn (d + 1) t .nilFunc .nilFunc).run P w = .ok true w := by
  rw [Op.equalIn]; simp only [Sem.run_bind, run_underlying h, Result.andThen_ok, Sem.run_pure]
theorem eql_func {P : Program} {t : TypeId} {f : Fn} {fs cs : Array Value} {b : Bool} {w : World} (h : (Op.equalIn 10000 t (.func f fs cs) .nilFunc).run P w = .ok b w) : (binOp .eql t (.func f fs cs) .nilFunc).run P w = .ok (.bool b) w ∧ (binOp .neq t (.func f fs cs) .nilFunc).run P w = .ok (.bool (!b)) w := by
  constructor <;> simp only [binOp, Op.equal, Op.maxDepth, Sem.run_bind, h, Result.andThen_ok, Sem.run_pure]
theorem eql_nil {P : Program} {t : TypeId} {b : Bool} {w : World} (h : (Op.equalIn 10000 t .nilFunc .nilFunc).run P w = .ok b w) : (binOp .eql t .nilFunc .nilFunc).run P w = .ok (.bool b) w ∧ (binOp .neq t .nilFunc .nilFunc).run P w = .ok (.bool (!b)) w := by
  constructor <;> simp only [binOp, Op.equal, Op.maxDepth, Sem.run_bind, h, Result.andThen_ok, Sem.run_pure]
theorem eql_slnil {P : Program} {t : TypeId} {b : Bool} {w : World} {ad : Option Addr} {n cc : Nat} (h : (Op.equalIn 10000 t (.slice ad n cc) (.slice none 0 0)).run P w = .ok b w) : (binOp .eql t (.slice ad n cc) (.slice none 0 0)).run P w = .ok (.bool b) w ∧ (binOp .neq t (.slice ad n cc) (.slice none 0 0)).run P w = .ok (.bool (!b)) w := by
  constructor <;> simp only [binOp, Op.equal, Op.maxDepth, Sem.run_bind, h, Result.andThen_ok, Sem.run_pure]
theorem eqB_run {P : Program} {c : Ctx} (hT : TabOk P c.T) (hE : EqsOk P c.E) {o : Own} {t : TypeId} {x y : V} {a b : Value} {e : BE} (ha : RA w F β o a x) (hb : RA w F β o b y) (h : eqB c t x y = some e) :
    (∀ (op : BinOp) (ox oy : Operand) w', (eqGuard op t ox oy a b).run P w' = .ok () w') ∧ (∀ w', (binOp .eql t a b).run P w' = .ok (.bool e.den) w') ∧ (∀ w', (binOp .neq t a b).run P w' = .ok (.bool (!e.den)) w') := by
  have agg : ∀ (xs ys : List V) (cs : Nat → Nat), (∃ fs, P.underlying t = some (.struct fs)) ∨ (∃ m el, P.underlying t = some (.array m el)) → RA w F β o a (.agg xs) → RA w F β o b (.agg ys) → (∃ ks, elook c.E t = some ks ∧ eqA ks xs ys = some e) →
      (∀ (op : BinOp) (ox oy : Operand) w', (eqGuard op t ox oy a b).run P w' = .ok () w') ∧ (∀ w', (binOp .eql t a b).run P w' = .ok (.bool e.den) w') ∧ (∀ w', (binOp .neq t a b).run P w' = .ok (.bool (!e.den)) w') := by
    intro xs ys _ hu ha hb ⟨ks, hk, he⟩
    obtain ⟨g1, g2⟩ := hE.ok t ks hk
    obtain ⟨as, rfl, h1, _, h3⟩ := RA.of_agg ha
    obtain ⟨bs, rfl, k1, _, k3⟩ := RA.of_agg hb
    obtain ⟨m1, m2⟩ := eqA_run he (as := as.toList) (bs := bs.toList) (by simpa using h1) (by simpa using k1) (fun i v x hv hx => h3 i v x (by simpa using hv) hx) (fun i v x hv hx => k3 i v x (by simpa using hv) hx)
    have hof : ∀ cs : List Value, ofCells P t cs = .agg cs.toArray := fun cs => by
      unfold ofCells
      rcases hu with ⟨fs, hu⟩ | ⟨m, el, hu⟩ <;> rw [hu]
    have heq := fun w' => equal_of 60 g1 10000 (by omega) as.toList bs.toList m1 w'
    simp only [hof, Array.toArray_toList] at heq
    refine ⟨fun op ox oy w' => run_eqGuard_agg w' op t ox oy as bs g2, fun w' => ?_, fun w' => ?_⟩
    · rw [run_eql_struct, heq, m2]; rfl
    · rw [run_neq_struct, heq, m2]; rfl
  unfold eqB at h
  split at h
  · rename_i q1 q2 q3 e1 e2 ht
    simp only [Option.some.injEq] at h; subst h
    obtain ⟨i1, z1, d1, k1, k2, k3, _⟩ := hT.ok _ _ ht
    cases d1 <;> simp only [TD.of, reduceCtorEq] at k3
    have h1 := RA.of_bool ha
    have h2 := RA.of_bool hb
    subst h1; subst h2
    refine ⟨fun op ox oy w' => by unfold eqGuard; cases op <;> rfl, fun w' => ?_, fun w' => ?_⟩
    · simp [binOp, run_equal_bool w' t _ _ k2, BE.den]
    · simp [binOp, run_equal_bool w' t _ _ k2, BE.den]
  · rename_i q1 q2 q3 f xs ys ht
    simp only [Option.some.injEq] at h; subst h
    obtain ⟨i1, z1, d1, k1, k2, k3, _⟩ := hT.ok _ _ ht
    cases d1 <;> simp only [TD.of, reduceCtorEq] at k3
    obtain ⟨fs, cs, rfl, _⟩ := RA.of_fn ha
    have h2 := RA.of_nilfn hb
    subst h2
    exact ⟨fun op ox oy w' => by unfold eqGuard; cases op <;> rfl, fun w' => (eql_func (equalIn_func_nil k2 9999 _ _ _ w')).1, fun w' => (eql_func (equalIn_func_nil k2 9999 _ _ _ w')).2⟩
  · rename_i q1 q2 q3 ht
    simp only [Option.some.injEq] at h; subst h
    obtain ⟨i1, z1, d1, k1, k2, k3, _⟩ := hT.ok _ _ ht
    cases d1 <;> simp only [TD.of, reduceCtorEq] at k3
    have h1 := RA.of_nilfn ha
    have h2 := RA.of_nilfn hb
    subst h1; subst h2
    exact ⟨fun op ox oy w' => by unfold eqGuard; cases op <;> rfl, fun w' => (eql_nil (equalIn_nil_nil k2 9999 w')).1, fun w' => (eql_nil (equalIn_nil_nil k2 9999 w')).2⟩
  · rename_i el q1 q2 q3 ht
    simp only [Option.some.injEq] at h; subst h
    obtain ⟨i1, z1, d1, k1, k2, k3, _⟩ := hT.ok _ _ ht
    cases d1 <;> simp only [TD.of, reduceCtorEq] at k3
    have h1 := RA.of_nilsl ha
    have h2 := RA.of_nilsl hb
    subst h1; subst h2
    exact ⟨fun op ox oy w' => by unfold eqGuard; cases op <;> rfl, fun w' => (eql_slnil (run_equalIn_slice_nil w' 9999 t _ none 0 0 k2)).1, fun w' => (eql_slnil (run_equalIn_slice_nil w' 9999 t _ none 0 0 k2)).2⟩
  · rename_i fs q1 q2 q3 xs ys ht
    obtain ⟨i1, z1, d1, k1, k2, k3, _⟩ := hT.ok _ _ ht
    cases d1 <;> simp only [TD.of, reduceCtorEq] at k3
    split at h
    · rename_i ks hk
      exact agg xs ys id (.inl ⟨_, k2⟩) ha hb ⟨ks, hk, h⟩
    · cases h
  · rename_i m el q1 q2 q3 xs ys ht
    obtain ⟨i1, z1, d1, k1, k2, k3, _⟩ := hT.ok _ _ ht
    cases d1 <;> simp only [TD.of, reduceCtorEq] at k3
    split at h
    · rename_i ks hk
      exact agg xs ys id (.inr ⟨_, _, k2⟩) ha hb ⟨ks, hk, h⟩
    · cases h
  · cases h

theorem eqV_run {P : Program} {c : Ctx} (hT : TabOk P c.T) (hE : EqsOk P c.E) {o : Own} {op : BinOp} {t : TypeId} {ox oy : Operand} {x y : V} {a b : Value} {z : V} (ha : RA w F β o a x) (hb : RA w F β o b y) (h : eqV c op t x y = some z) :
    ∃ v, (∀ w', (do eqGuard op t ox oy a b; binOp op t a b : Sem Value).run P w' = .ok v w') ∧ RA w F β o v z := by
  unfold eqV at h
  split at h
  · split at h
    · rename_i e he
      simp only [Option.some.injEq] at h; subst h
      obtain ⟨g1, g2, _⟩ := eqB_run hT hE ha hb he
      exact ⟨.bool e.den, fun w' => by simp only [Sem.run_bind, g1, Result.andThen_ok, g2], ra_bool rfl⟩
    · cases h
  · split at h
    · rename_i e he
      simp only [Option.some.injEq] at h; subst h
      obtain ⟨g1, _, g2⟩ := eqB_run hT hE ha hb he
      exact ⟨.bool (!e.den), fun w' => by simp only [Sem.run_bind, g1, Result.andThen_ok, g2], ra_bool (notB_den _)⟩
    · cases h
  · cases h

theorem pure_run' {w0 : World} {F0 S0 : Nat → Prop} {s : St} {tm : Array Value} {a : Act} (ha : a.tmps = tm) (hr : Rel P c w0 F0 S0 F β s tm w) {im : List (Nat × Bool)} (him : ∀ t b, (t, b) ∈ im → tm.getD t undef = .bool b)
    {op : Oper} {z : V} (h : pureV c s.e s.o im op.op = some z) {H : World → Prop} (hA : ∀ w', H w' → ∀ b, b < w.heap.size → ¬ F b → w'.heap[b]? = w.heap[b]?)
    (hB : ∀ t x id off, op.op = .load t x → res s.e im (evalO c s.e x) = .ptr id off → ∀ w' b, H w' → β id = some b → w'.heap[b]? = w.heap[b]?) :
    ∃ v, (∀ w', H w' → (execOp a.eval op).run P w' = .ok (.value v) w') ∧ RA w F β s.o v z := by
  have hres := fun x => res_ra ha hr him x
  unfold execOp
  generalize op.op = q at h hB
  unfold pureV at h
  split at h
  · -- move
    simp only [Option.some.injEq] at h; subst h
    exact ⟨_, fun w' _ => rfl, hres _⟩
  · simp only [Option.some.injEq] at h; subst h
    exact ⟨_, fun w' _ => rfl, hres _⟩
  · -- pick
    rename_i cd x y
    have hc := hres cd
    split at h
    · rename_i hq
      rw [hq] at hc
      have := RA.of_bool hc
      simp only [Option.some.injEq] at h; subst h
      exact ⟨_, fun w' _ => by simp [this, asBool, BE.den], hres x⟩
    · rename_i hq
      rw [hq] at hc
      have := RA.of_bool hc
      simp only [Option.some.injEq] at h; subst h
      exact ⟨_, fun w' _ => by simp [this, asBool, BE.den], hres y⟩
    · rename_i q hn1 hn2 hq
      rw [hq] at hc
      have hcd := RA.of_bool hc
      split at h
      · rename_i t
        have htm : a.eval (.tmp t) = tm.getD t undef := by simp [Act.eval, ha]
        have hT : q.den = true → RA w F β s.o (a.eval x) (res s.e ((t, true) :: im) (evalO c s.e x)) := fun hd => res_ra ha hr (fun t' b' hm => by
          rcases List.mem_cons.1 hm with hm | hm
          · simp only [Prod.mk.injEq] at hm; obtain ⟨rfl, rfl⟩ := hm; rw [← htm, hcd, hd]
          · exact him _ _ hm) x
        have hF : q.den = false → RA w F β s.o (a.eval y) (res s.e ((t, false) :: im) (evalO c s.e y)) := fun hd => res_ra ha hr (fun t' b' hm => by
          rcases List.mem_cons.1 hm with hm | hm
          · simp only [Prod.mk.injEq] at hm; obtain ⟨rfl, rfl⟩ := hm; rw [← htm, hcd, hd]
          · exact him _ _ hm) y
        refine ⟨if q.den = true then a.eval x else a.eval y, fun w' _ => by simp only [Sem.run_bind, hcd, asBool, Sem.run_pure, Result.andThen_ok], ?_⟩
        split at h
        · rename_i x1 y1 hx1 hy1
          simp only [Option.some.injEq] at h; subst h
          rw [hx1] at hT; rw [hy1] at hF
          cases hd : q.den with
          | true => have := RA.of_bool (hT hd); simp only [if_true, this]; exact ra_bool (by rw [iteB_den, hd]; simp)
          | false => have := RA.of_bool (hF hd); simp only [Bool.false_eq_true, if_false, this]; exact ra_bool (by rw [iteB_den, hd]; simp)
        · rename_i k x1 k' y1 hx1 hy1
          obtain ⟨hk, rfl⟩ := bif_some h
          simp only [keq, decide_eq_true_eq] at hk
          subst hk
          rw [hx1] at hT; rw [hy1] at hF
          cases hd : q.den with
          | true => obtain ⟨h1, h2⟩ := RA.of_int (hT hd); simp only [if_true, h1]; exact ra_int (by simp [IE.den, hd]) h2
          | false => obtain ⟨h1, h2⟩ := RA.of_int (hF hd); simp only [Bool.false_eq_true, if_false, h1]; exact ra_int (by simp [IE.den, hd]) h2
        · cases h
      · cases h
    · cases h
  · -- binOp
    rename_i op' xt x y yt
    have hv : ∃ v, (∀ w', (do eqGuard op' xt x y (a.eval x) (a.eval y); binOp op' xt (a.eval x) (a.eval y) : Sem Value).run P w' = .ok v w') ∧ RA w F β s.o v z := by
      split at h
      · rename_i v hb
        simp only [Option.some.injEq] at h; subst h
        exact binV_run (hres x) (hres y) hb
      · exact eqV_run hr.tab hr.eqs (hres x) (hres y) h
    obtain ⟨v, h1, h2⟩ := hv
    exact ⟨v, fun w' _ => by have h1 := h1 w'; simp only [Sem.run_bind, Sem.run_pure] at h1 ⊢; rw [h1]; rfl, h2⟩
  · -- unOp
    rename_i op' xt x
    have hx := hres x
    split at h
    · rename_i k e1 hq
      rw [hq] at hx
      obtain ⟨h1, h2⟩ := RA.of_int hx
      simp only [Option.some.injEq] at h; subst h
      exact ⟨.int k (arD .sub k 0 e1.den), fun w' _ => by simp [h1, Op.unary, Op.intArith, arD], ra_int (by rw [arI_den]; rfl) (wrap_has _ _)⟩
    · rename_i b1 hq
      rw [hq] at hx
      have h1 := RA.of_bool hx
      simp only [Option.some.injEq] at h; subst h
      exact ⟨.bool (!b1.den), fun w' _ => by simp [h1, Op.unary], ra_bool (notB_den _)⟩
    · cases h
  · -- convert
    rename_i sT dT x
    have hx := hres x
    split at h
    · rename_i ti1 k q1 q2 q3 k' e1 hs hd hq
      rw [hq] at hx
      obtain ⟨h1, h2⟩ := RA.of_int hx
      simp only [Option.some.injEq] at h; subst h
      obtain ⟨i1, z1, d1, g1, g2, g3, _⟩ := hr.tab.ok _ _ hs
      obtain ⟨i2, z2, d2, f1, f2, f3, f4⟩ := hr.tab.ok _ _ hd
      cases d2 <;> simp only [TD.of, reduceCtorEq, TD.int.injEq] at f3
      rename_i kk
      subst f3
      exact ⟨.int kk (kk.wrap e1.den), fun w' _ => by simp [convert, run_underlying g2, run_underlying f2, h1, Conv.intToInt], ra_int (wrapI_den h2) (wrap_has _ _)⟩
    · rename_i ti1 q1 q2 q3 e1 hs hd hq
      rw [hq] at hx
      obtain ⟨h1, h2⟩ := RA.of_str hx
      simp only [Option.some.injEq] at h; subst h
      obtain ⟨i1, z1, d1, g1, g2, g3, _⟩ := hr.tab.ok _ _ hs
      obtain ⟨i2, z2, d2, f1, f2, f3, f4⟩ := hr.tab.ok _ _ hd
      cases d2 <;> simp only [TD.of, reduceCtorEq] at f3
      rw [h1] at hx
      exact ⟨_, fun w' _ => by simp [convert, run_underlying g2, run_underlying f2, h1], hx⟩
    · cases h
  · -- field
    rename_i t x i
    have hx := hres x
    split at h
    · rename_i fs q1 q2 q3 cs ht hq
      rw [hq] at hx
      obtain ⟨vs, h1, h2, h3, h4⟩ := RA.of_agg hx
      split at h
      · rename_i off ft hf
        split at h
        · rename_i ti hti
          obtain ⟨v, g1, g2⟩ := part_run hr.tab hti h2 h3 h4 h
          refine ⟨v, fun w' _ => ?_, g2⟩
          obtain ⟨i1, z1, d1, k1, k2, k3, k4⟩ := hr.tab.ok _ _ ht
          cases d1 <;> simp only [TD.of, reduceCtorEq] at k3
          rename_i fields
          simp only [TD.struct.injEq] at k3
          rw [nthf_eq, ← k3] at hf
          simp only [List.getElem?_map, Option.map_eq_some_iff, Prod.mk.injEq] at hf
          obtain ⟨f, hf1, rfl, rfl⟩ := hf
          have hf2 : fields[i]? = some f := by simpa using hf1
          simp [Instr.field, run_underlying k2, hf2, h1, asAgg, g1]
        · cases h
      · cases h
    · cases h
  · -- extract
    rename_i x i
    have hx := hres x
    split at h
    · rename_i vs hq
      rw [hq] at hx
      obtain ⟨cs, h1, h2, h3⟩ := RA.of_tup hx
      rw [nthv_eq] at h
      have hlt : i < cs.size := by rw [h2]; exact (List.getElem?_eq_some_iff.1 h).1
      have hc : cs[i]? = some cs[i] := Array.getElem?_eq_getElem hlt
      exact ⟨cs[i], fun w' _ => by simp [Instr.extract, h1, hc], h3 i _ z hc h⟩
    · cases h
  · -- len
    rename_i x t
    have hx := hres x
    split at h
    · rename_i el q1 q2 q3 hti
      obtain ⟨i1, z1, d1, k1, k2, k3, k4⟩ := hr.tab.ok _ _ hti
      cases d1 <;> simp only [TD.of, reduceCtorEq] at k3
      have hsl : ∀ (n cc : Nat) (ad : Option Addr), a.eval x = .slice ad n cc → ∀ w', (Builtin.len_ #[t] op.type #[a.eval x]).run P w' = .ok (.int .i64 n) w' := by
        intro n cc ad he w'
        simp [Builtin.len_, run_underlying k2, he, goInt]
      have fin : ∀ (y : V) (sz : Nat) (es : List V) (e1 : IE), RA w F β s.o (a.eval x) y → y.elems = some (sz, es) → e1.den = (es.length : Int) → z = .int .i64 e1 →
          ∃ v, (∀ w', (Builtin.len_ #[t] op.type #[a.eval x]).run P w' = .ok v w') ∧ RA w F β s.o v z := by
        intro y sz es e1 hy he hd hz
        obtain ⟨ad, cc, h1, h2⟩ := slice_val (RA.of_elems hy he) he
        exact ⟨_, hsl _ _ _ h1, by rw [hz]; exact ra_int hd (has_len h2)⟩
      have : ∃ v, (∀ w', (Builtin.len_ #[t] op.type #[a.eval x]).run P w' = .ok v w') ∧ RA w F β s.o v z := by
        unfold lenV at h
        split at h
        · rename_i sz α f l hq
          rw [hq] at hx
          simp only [Option.some.injEq] at h
          exact fin _ _ _ _ hx rfl (by simp [IE.den]) h.symm
        · rename_i sz vs hq
          rw [hq] at hx
          simp only [Option.some.injEq] at h
          exact fin _ _ _ _ hx rfl (by simp [IE.den]) h.symm
        · rename_i hq
          rw [hq] at hx
          simp only [Option.some.injEq] at h
          exact fin _ _ _ _ hx rfl (by simp [IE.den]) h.symm
        · rename_i id hq
          rw [hq] at hx
          split at h
          · rename_i fx1 e1 sz1 α1 f1 l1 ho
            simp only [Option.some.injEq] at h
            subst h
            obtain ⟨fx2, e2, sz2, α2, f2, l2, g1, g2⟩ := RA.of_osl hx
            rw [ho] at g1
            simp only [Option.some.injEq, Ent.arr.injEq] at g1
            obtain ⟨_, _, _, rfl, hf, hl⟩ := g1
            have hl := eq_of_heq hl
            subst hl
            rcases g2 with ⟨rfl, g2⟩ | ⟨b, cc, cur, _, g2, _, _, g3, _⟩
            · exact ⟨_, hsl _ _ _ g2, ra_int (by simp [IE.den]) (by rw [has_iff]; simp [lo, hi])⟩
            · exact ⟨_, hsl _ _ _ g2, ra_int (by simp [IE.den]) (has_len g3)⟩
          · cases h
        · rename_i id lo0 n hq
          rw [hq] at hx
          simp only [Option.some.injEq] at h
          subst h
          obtain ⟨fx2, e2, sz2, α2, f2, l2, i2, m2, g1, g2, g3, g4, g5⟩ := RA.of_view hx
          rcases g5 with ⟨g5, ad, cc, g6⟩ | ⟨b, cc, cur, g5, _, g6, _, _, g7, _⟩
          · exact ⟨_, hsl _ _ _ g6, ra_int (by rw [g3, g5]) (by rw [has_iff]; simp [lo, hi])⟩
          · exact ⟨_, hsl _ _ _ g6, ra_int g3 (has_len (by omega))⟩
        · cases h
      obtain ⟨v, h1, h2⟩ := this
      exact ⟨v, fun w' _ => by simp [resolve, invoke, builtin, h1], h2⟩
    · rename_i q1 q2 q3 hti
      obtain ⟨i1, z1, d1, k1, k2, k3, k4⟩ := hr.tab.ok _ _ hti
      cases d1 <;> simp only [TD.of, reduceCtorEq] at k3
      have hst : ∀ (l : List UInt8), a.eval x = .string ⟨l.toArray⟩ → ∀ w', (Builtin.len_ #[t] op.type #[a.eval x]).run P w' = .ok (.int .i64 l.length) w' := by
        intro l he w'
        have hsz : (ByteArray.mk l.toArray).size = l.length := rfl
        simp [Builtin.len_, run_underlying k2, he, goInt, hsz]
      have : ∃ v, (∀ w', (Builtin.len_ #[t] op.type #[a.eval x]).run P w' = .ok v w') ∧ RA w F β s.o v z := by
        unfold lenS at h
        split at h
        · rename_i l hq
          rw [hq] at hx
          obtain ⟨h1, h2⟩ := RA.of_str hx
          simp only [Option.some.injEq] at h
          subst h
          exact ⟨_, hst _ h1, ra_int (by simp [IE.den, SE.den]) (has_len h2)⟩
        · rename_i e1 hn hq
          rw [hq] at hx
          obtain ⟨h1, h2⟩ := RA.of_str hx
          simp only [Option.some.injEq] at h
          subst h
          exact ⟨_, hst _ h1, ra_int (by simp [IE.den]) (has_len h2)⟩
        · cases h
      obtain ⟨v, h1, h2⟩ := this
      exact ⟨v, fun w' _ => by simp [resolve, invoke, builtin, h1], h2⟩
    · cases h
  · -- min
    rename_i x y _
    have hx := hres x
    have hy := hres y
    unfold minV at h
    split at h
    · rename_i k e1 k' e2 hq1 hq2
      rw [hq1] at hx; rw [hq2] at hy
      obtain ⟨hk, rfl⟩ := bif_some h
      simp only [keq, decide_eq_true_eq] at hk
      subst hk
      obtain ⟨h1, h2⟩ := RA.of_int hx
      obtain ⟨h3, h4⟩ := RA.of_int hy
      refine ⟨.int k (if e2.den < e1.den then e2.den else e1.den), fun w' _ => by simp [resolve, invoke, builtin, Builtin.min_, Builtin.min2, h1, h3], ra_int (by simp [IE.den]) ?_⟩
      split <;> assumption
    · cases h
  · -- max
    rename_i x y _
    have hx := hres x
    have hy := hres y
    unfold minV at h
    split at h
    · rename_i k e1 k' e2 hq1 hq2
      rw [hq1] at hx; rw [hq2] at hy
      obtain ⟨hk, rfl⟩ := bif_some h
      simp only [keq, decide_eq_true_eq] at hk
      subst hk
      obtain ⟨h1, h2⟩ := RA.of_int hx
      obtain ⟨h3, h4⟩ := RA.of_int hy
      refine ⟨.int k (if e2.den > e1.den then e2.den else e1.den), fun w' _ => by simp [resolve, invoke, builtin, Builtin.max_, Builtin.max2, h1, h3], ra_int (by simp [IE.den]) ?_⟩
      split <;> assumption
    · cases h
  · -- load
    rename_i t x
    have hx := hres x
    split at h
    · rename_i ti cs hti hq
      rw [hq] at hx
      have hrp := RA.of_rptr hx
      obtain ⟨ad, had⟩ := rptr_val hrp
      rw [had] at hrp
      obtain ⟨b, off, hba, hbF, hbl, hc⟩ := Cells.of_rptr (o := s.o) (β := β) hrp
      simp only [Option.some.injEq] at hba
      subst hba
      obtain ⟨v, h1, h2⟩ := loadX_run hr.tab hti hc h
      exact ⟨v, fun w' hw => by simp [Instr.loadAt, Instr.sureAddr, had, h1 w' (hA w' hw b hbl hbF)], h2⟩
    · rename_i ti id off hti hq
      rw [hq] at hx
      split at h
      · rename_i cs ho
        obtain ⟨b, cs', g1, g2, g3⟩ := RA.of_ptr hx
        obtain ⟨b', g4, hc⟩ := Cells.of_var hr.own ho
        rw [g1] at g4
        simp only [Option.some.injEq] at g4
        subst g4
        have hc := hc.drop off
        rw [Nat.zero_add] at hc
        obtain ⟨v, h1, h2⟩ := loadX_run hr.tab hti hc h
        exact ⟨v, fun w' hw => by simp [Instr.loadAt, Instr.sureAddr, g3, h1 w' (hB t x id off rfl hq w' b hw g1)], h2⟩
      · cases h
    · cases h
  · -- fieldAddr
    rename_i t x i
    have hx := hres x
    split at h
    · rename_i fs q1 q2 q3 cs hti hq
      rw [hq] at hx
      have hrp := RA.of_rptr hx
      obtain ⟨ad, had⟩ := rptr_val hrp
      split at h
      · rename_i off ft hf
        split at h
        · rename_i ti hft
          obtain ⟨hz, rfl⟩ := bif_some h
          simp only [Bool.and_eq_true, ltN_iff] at hz
          have hrp' := hrp
          rw [had] at hrp'
          obtain ⟨b, o1, hba, _⟩ := Cells.of_rptr (o := s.o) (β := β) hrp'
          simp only [Option.some.injEq] at hba
          subst hba
          refine ⟨.pointer (some ⟨b, o1 + off, none⟩), fun w' _ => by simp only [Sem.run_bind, had, fieldAt_run hr.tab hti hf hft hz.1, Result.andThen_ok, Sem.run_pure], .d _ _ ?_⟩
          rw [had] at hrp
          generalize hv : Value.pointer (some (⟨b, o1, none⟩ : Addr)) = v at hrp
          generalize hxx : V.rptr cs = xx at hrp
          cases hrp with
          | rptr a' xs' hs hF hb cv hone hcv hr =>
            cases hxx; cases hv
            refine .rptr _ _ rfl hF hb (fun j => cv (off + j)) (fun j y hj => ?_) (fun j y hj => ?_) (fun j y hj => ?_)
            · rw [List.getElem?_drop] at hj; exact hone _ y hj
            · rw [List.getElem?_drop] at hj; rw [← hcv _ y hj, Nat.add_assoc]
            · rw [List.getElem?_drop] at hj; exact hr _ y hj
          | nilsl => cases hv
          | slice => cases hv
          | _ => cases hxx
        · cases h
      · cases h
    · rename_i fs q1 q2 q3 id o1 hti hq
      rw [hq] at hx
      split at h
      · rename_i off ft hf
        split at h
        · rename_i ti hft
          obtain ⟨hz, rfl⟩ := bif_some h
          simp only [ltN_iff] at hz
          obtain ⟨b, cs', g1, g2, g3⟩ := RA.of_ptr hx
          exact ⟨.pointer (some ⟨b, o1 + off, none⟩), fun w' _ => by simp only [Sem.run_bind, g3, fieldAt_run hr.tab hti hf hft hz, Result.andThen_ok, Sem.run_pure], .ptr _ _ b g1 cs' g2⟩
        · cases h
      · cases h
    · rename_i fs q1 q2 q3 id ix o1 hti hq
      rw [hq] at hx
      split at h
      · rename_i off ft hf
        split at h
        · rename_i ti hft
          obtain ⟨hz, rfl⟩ := bif_some h
          simp only [ltN_iff] at hz
          obtain ⟨b, fx1, e1, sz1, n1, α1, f1, l1, g1, g2, g3, g4, g5⟩ := RA.of_eptr hx
          refine ⟨.pointer (some ⟨b, n1 * sz1 + o1 + off, none⟩), fun w' _ => by simp only [Sem.run_bind, g5, fieldAt_run hr.tab hti hf hft hz, Result.andThen_ok, Sem.run_pure], ?_⟩
          rw [Nat.add_assoc]
          exact .eptr _ _ b g1 fx1 e1 sz1 _ n1 f1 l1 g2 g3 g4
        · cases h
      · cases h
    · cases h
  · -- makeFunc
    rename_i f first cap
    simp only [Option.some.injEq] at h; subst h
    refine ⟨.func (.func f) ⟨first.map a.eval⟩ ⟨cap.map a.eval⟩, fun w' _ => by simp [Instr.makeFunc], .fn _ _ _ _ _ (by simp) (by simp) ?_ ?_⟩
    · intro i v y hi hy
      simp only [List.getElem?_toArray, List.getElem?_map, Option.map_eq_some_iff] at hi hy
      obtain ⟨x, hx, rfl⟩ := hi
      obtain ⟨x', hx', rfl⟩ := hy
      rw [hx] at hx'
      cases hx'
      exact hres x
    · intro i v y hi hy
      simp only [List.getElem?_toArray, List.getElem?_map, Option.map_eq_some_iff] at hi hy
      obtain ⟨x, hx, rfl⟩ := hi
      obtain ⟨x', hx', rfl⟩ := hy
      rw [hx] at hx'
      cases hx'
      exact hres x
  · -- nilCheck
    rename_i x
    have hx := hres x
    split at h
    · rename_i id off hq
      rw [hq] at hx
      simp only [Option.some.injEq] at h; subst h
      obtain ⟨b, cs', g1, g2, g3⟩ := RA.of_ptr hx
      exact ⟨a.eval x, fun w' _ => by simp [g3], hx⟩
    · rename_i cs hq
      rw [hq] at hx
      simp only [Option.some.injEq] at h; subst h
      obtain ⟨ad, had⟩ := rptr_val (RA.of_rptr hx)
      exact ⟨a.eval x, fun w' _ => by simp [had], hx⟩
    · cases h
  · cases h

theorem pure_run {w0 : World} {F0 S0 : Nat → Prop} {s : St} {tm : Array Value} {a : Act} (ha : a.tmps = tm) (hr : Rel P c w0 F0 S0 F β s tm w) {im : List (Nat × Bool)} (him : ∀ t b, (t, b) ∈ im → tm.getD t undef = .bool b)
    {op : Oper} {z : V} (h : pureV c s.e s.o im op.op = some z) : ∃ v, Yields P a op w v ∧ RA w F β s.o v z := by
  obtain ⟨v, h1, h2⟩ := pure_run' (H := fun w' => w' = w) ha hr him h (fun w' hw b _ _ => by rw [hw]) (fun _ _ _ _ _ _ w' b hw _ => by rw [hw])
  exact ⟨v, h1 w rfl, h2⟩
end
end Go.Vg
