/- The own layer, part A2: soundness of the conditions of code. -/
import Derived.Test.YtpdklmagncfhaaaDoorA1
import Derived.Laws.Cover3
import Derived.Laws.Small
set_option maxRecDepth 4000
set_option linter.all false
set_option linter.unusedVariables false
set_option linter.unusedSimpArgs false
/- The evaluation of operations that only compute is right. -/
namespace Go.Vg
open Go

section
variable {P : Program} {c : Ctx} {w : World} {F : Nat → Prop} {β : Bt} {o : Own}

theorem isAgg_run {T : Tab} (hT : TabOk P T) {t : TypeId} {ti : TI} (h : tlook T t = some ti) (w : World) : (isAgg t).run P w = .ok ti.d.isAgg w := by
  obtain ⟨info, zv, desc, h1, h2, h3, h4, h5, h6, h7, h8, h9, h10⟩ := hT.ok t ti h
  simp only [isAgg, Sem.run_bind, run_underlying h2, Result.andThen_ok]
  rw [← h3]
  cases desc <;> simp [TD.of, TD.isAgg]
theorem sizeOf_run {T : Tab} (hT : TabOk P T) {t : TypeId} {ti : TI} (h : tlook T t = some ti) (w : World) : (sizeOf t).run P w = .ok ti.sz w := by
  obtain ⟨info, zv, desc, h1, h2, h3, h4, h5, h6, h7, h8, h9, h10⟩ := hT.ok t ti h
  simp [sizeOf, typeInfo, h1, h4]

theorem Addr.add_at (b o j : Nat) : (⟨b, o, none⟩ : Addr).add j = ⟨b, o + j, none⟩ := by
  unfold Addr.add; split <;> simp_all

/-- Memory from a place on holds these cells. -/
def Cells (w : World) (F : Nat → Prop) (β : Bt) (o : Own) (b off : Nat) (xs : List V) : Prop :=
  ∀ (j : Nat) (y : V), xs[j]? = some y → ∃ cv, w.cell? ⟨b, off + j, none⟩ = some cv ∧ cv.oneCell' = true ∧ RA w F β o cv y

theorem Cells.drop {b off : Nat} {xs : List V} (h : Cells w F β o b off xs) (k : Nat) : Cells w F β o b (off + k) (xs.drop k) := by
  intro j y hj
  rw [List.getElem?_drop] at hj
  obtain ⟨cv, h1, h2, h3⟩ := h _ y hj
  exact ⟨cv, by rw [Nat.add_assoc]; exact h1, h2, h3⟩

theorem loadX_run {T : Tab} (hT : TabOk P T) {t : TypeId} {ti : TI} (ht : tlook T t = some ti) {b off : Nat} {xs : List V} (h : Cells w F β o b off xs) {z : V} (hz : loadX ti xs = some z) :
    ∃ v, (∀ w' : World, w'.heap[b]? = w.heap[b]? → (loadVar t ⟨b, off, none⟩).run P w' = .ok v w') ∧ RA w F β o v z := by
  unfold loadX at hz
  unfold loadVar
  have hcell : ∀ (w' : World) (j : Nat), w'.heap[b]? = w.heap[b]? → w'.cell? ⟨b, j, none⟩ = w.cell? ⟨b, j, none⟩ := fun w' j h => by simp only [World.cell?, h]
  simp only [Sem.run_bind, isAgg_run hT ht, Result.andThen_ok]
  cases ha : ti.d.isAgg with
  | true =>
    simp only [ha, cond_true] at hz
    obtain ⟨hl, rfl⟩ := bif_some hz
    have hl := leN_true hl
    have hf : ∃ f : Nat → Value, ∀ j, j < ti.sz → w.cell? ⟨b, off + j, none⟩ = some (f j) ∧ (f j).oneCell' = true ∧ ∀ y, xs[j]? = some y → RA w F β o (f j) y := by
      refine ⟨fun j => (w.cell? ⟨b, off + j, none⟩).getD undef, fun j hj => ?_⟩
      have hj' : j < xs.length := by omega
      obtain ⟨cv, h1, h2, h3⟩ := h j xs[j] (List.getElem?_eq_getElem hj')
      refine ⟨by simp [h1], by simp [h1, h2], fun y hy => ?_⟩
      rw [List.getElem?_eq_getElem hj'] at hy
      simp only [h1, Option.getD_some]
      simp only [Option.some.injEq] at hy
      exact hy ▸ h3
    obtain ⟨f, hf⟩ := hf
    have hr := fun (w' : World) (hw : w'.heap[b]? = w.heap[b]?) => run_loadCells (P := P) (w := w') ⟨b, off, none⟩ ti.sz f (fun j hj => by rw [Addr.add_at, hcell w' _ hw]; exact (hf j hj).1)
    simp only [if_true, Sem.run_bind, sizeOf_run hT ht, Result.andThen_ok]
    refine ⟨_, fun w' hw => by rw [hr w' hw]; rfl, .agg _ _ ?_ ?_ ?_⟩
    · simp [List.length_take]; omega
    · intro v hv
      simp at hv
      obtain ⟨j, hj, rfl⟩ := hv
      exact (hf j hj).2.1
    · intro i v y hi hy
      have hlt : i < ti.sz := by
        rcases Nat.lt_or_ge i ti.sz with h | h
        · exact h
        · simp [Nat.not_lt.2 h] at hi
      simp [hlt] at hi
      rw [List.getElem?_take, if_pos hlt] at hy
      exact hi ▸ (hf i hlt).2.2 y hy
  | false =>
    simp only [ha, cond_false] at hz
    cases xs with
    | nil => cases hz
    | cons x r =>
      simp only [Option.some.injEq] at hz
      subst hz
      obtain ⟨cv, h1, h2, h3⟩ := h 0 x rfl
      refine ⟨cv, fun w' hw => ?_, h3⟩
      simp only [Bool.false_eq_true, if_false, run_load]
      rw [show (⟨b, off, none⟩ : Addr) = ⟨b, off + 0, none⟩ from rfl, hcell w' _ hw, h1]

theorem part_run {T : Tab} (hT : TabOk P T) {t : TypeId} {ti : TI} (ht : tlook T t = some ti) {cs : Array Value} {xs : List V} (hs : cs.size = xs.length) (hone : ∀ c, c ∈ cs → c.oneCell' = true)
    (h : ∀ (i : Nat) (c : Value) (x : V), cs[i]? = some c → xs[i]? = some x → RA w F β o c x) {off : Nat} {z : V} (hz : loadX ti (xs.drop off) = some z) :
    ∃ v, (∀ w', (part t cs off).run P w' = .ok v w') ∧ RA w F β o v z := by
  unfold loadX at hz
  unfold part
  simp only [Sem.run_bind, isAgg_run hT ht, Result.andThen_ok]
  cases ha : ti.d.isAgg with
  | true =>
    simp only [ha, cond_true] at hz
    obtain ⟨hl, rfl⟩ := bif_some hz
    have hl := leN_true hl
    simp only [List.length_drop] at hl
    simp only [if_true, Sem.run_bind, sizeOf_run hT ht, Result.andThen_ok, Sem.run_pure]
    refine ⟨_, fun w' => rfl, .agg _ _ ?_ ?_ ?_⟩
    · simp [List.length_take]; omega
    · intro v hv
      rw [Array.mem_iff_getElem] at hv
      obtain ⟨j, hj, rfl⟩ := hv
      exact hone _ (by simp)
    · intro i v y hi hy
      rw [Array.getElem?_extract] at hi
      split at hi
      · rw [List.getElem?_take] at hy
        split at hy
        · rw [List.getElem?_drop] at hy
          exact h _ v y hi hy
        · cases hy
      · cases hi
  | false =>
    simp only [ha, cond_false] at hz
    cases hx : xs.drop off with
    | nil => rw [hx] at hz; cases hz
    | cons x r =>
      rw [hx] at hz
      simp only [Option.some.injEq] at hz
      subst hz
      have hx0 : xs[off]? = some x := by
        have := congrArg (fun l => l[0]?) hx
        simpa [List.getElem?_drop] using this
      have hlt : off < cs.size := by rw [hs]; exact (List.getElem?_eq_some_iff.1 hx0).1
      have hc : cs[off]? = some cs[off] := Array.getElem?_eq_getElem hlt
      simp only [Bool.false_eq_true, if_false, hc, Sem.run_pure]
      exact ⟨_, fun w' => rfl, h off _ _ hc hx0⟩

theorem Cells.of_rptr {a : Option Addr} {xs : List V} (h : RD w F (.pointer a) (.rptr xs)) : ∃ b off, a = some ⟨b, off, none⟩ ∧ ¬ F b ∧ b < w.heap.size ∧ Cells w F β o b off xs := by
  generalize hv : Value.pointer a = v at h
  generalize hx : V.rptr xs = x at h
  cases h with
  | rptr a' xs' hs hF hb cv hone hcv hr =>
    cases hx; cases hv
    obtain ⟨b, off, spot⟩ := a'
    simp only at hs
    subst hs
    exact ⟨b, off, rfl, hF, hb, fun j y hj => ⟨cv j, hcv j y hj, hone j y hj, .d _ _ (hr j y hj)⟩⟩
  | nilsl x sz hx' => cases hv
  | slice => cases hv
  | _ => cases hx
theorem rptr_val {v : Value} {xs : List V} (h : RD w F v (.rptr xs)) : ∃ a, v = .pointer (some a) := by
  generalize hx : V.rptr xs = x at h
  cases h with
  | rptr a' xs' hs hF hb cv hone hcv hr => exact ⟨_, rfl⟩
  | nilsl x sz hx' => subst hx; simp [V.elems] at hx'
  | slice x sz es hx' => subst hx; simp [V.elems] at hx'
  | _ => cases hx

theorem Cells.of_var {id : Nat} {cs : List V} (ho : OwnOk w F β o) (h : olook o id = some (.var cs)) : ∃ b, β id = some b ∧ Cells w F β o b 0 cs := by
  obtain ⟨b, c, t, h1, h2, h3, h4, h5, h6⟩ := ho.ent id _ h
  refine ⟨b, h1, fun j y hj => ?_⟩
  have hlt : j < c.size := by rw [h4]; exact (List.getElem?_eq_some_iff.1 hj).1
  have hc : c[j]? = some c[j] := Array.getElem?_eq_getElem hlt
  exact ⟨c[j], by simp [World.cell?, h3, hc], h5 _ (by simp), h6 j _ y hc hj⟩

theorem slice_val {v : Value} {x : V} {sz : Nat} {es : List V} (h : RD w F v x) (hx : x.elems = some (sz, es)) : ∃ ad c, v = .slice ad es.length c ∧ es.length ≤ LIM := by
  cases h with
  | nilsl x sz' hx' => rw [hx] at hx'; cases hx'; exact ⟨none, 0, rfl, by simp⟩
  | slice x sz' es' hx' hnn a c hc hl => rw [hx] at hx'; cases hx'; exact ⟨some a, c, rfl, hl⟩
  | _ => simp [V.elems] at hx
theorem has_len {n : Nat} (h : n ≤ LIM) : IntKind.i64.has (n : Int) := by
  rw [has_iff]; simp only [lo, hi]; unfold LIM at h; omega

/-- The operation has this value, and does nothing else. -/
def Yields (P : Program) (a : Act) (op : Oper) (w : World) (v : Value) : Prop := (execOp a.eval op).run P w = .ok (.value v) w

theorem fieldAt_run {T : Tab} (hT : TabOk P T) {t ft : TypeId} {ti : TI} {fs : List (Nat × TypeId)} {x1 x2 : Nat} {x3 : List V} (ht : tlook T t = some ⟨.struct fs, x1, x2, x3⟩) {i off : Nat} (hi : nthf fs i = some (off, ft)) (hf : tlook T ft = some ti) (hz : 0 < ti.sz)
    (b o : Nat) (w : World) : (Instr.fieldAt t (.pointer (some ⟨b, o, none⟩)) i).run P w = .ok (.pointer (some ⟨b, o + off, none⟩)) w := by
  obtain ⟨info, zv, desc, h1, h2, h3, h4, h5, h6, h7, h8, h9, h10⟩ := hT.ok t _ ht
  cases desc <;> simp only [TD.of, reduceCtorEq] at h3
  rename_i fields
  simp only [TD.struct.injEq] at h3
  rw [nthf_eq, ← h3] at hi
  simp only [List.getElem?_map, Option.map_eq_some_iff, Prod.mk.injEq] at hi
  obtain ⟨f, hf1, rfl, rfl⟩ := hi
  have hf2 : fields[i]? = some f := by simpa using hf1
  have hz' : ¬ ti.sz = 0 := by omega
  simp [Instr.fieldAt, run_underlying h2, hf2, Instr.sureAddr, fieldPlace, sizeOf_run hT hf, hz', Addr.add_at]

theorem RA.of_nilsl {w : World} {F : Nat → Prop} {β : Bt} {o : Own} {v : Value} (h : RA w F β o v .nilsl) : v = .slice none 0 0 := by
  generalize hx : V.nilsl = x at h
  cases h with
  | d v x h =>
    cases h with
    | nilsl x sz hx => rfl
    | slice x sz es hx' hnn => exact absurd hx.symm hnn
    | _ => cases hx
  | _ => cases hx

theorem andB_den (a b : BE) : (andB a b).den = (a.den && b.den) := by
  unfold andB; split <;> simp [BE.den]
theorem eqA_run {o : Own} : ∀ {ks : List SK} {xs ys : List V} {e : BE}, eqA ks xs ys = some e → ∀ {as bs : List Value}, as.length = xs.length → bs.length = ys.length →
    (∀ (i : Nat) (v : Value) (x : V), as[i]? = some v → xs[i]? = some x → RA w F β o v x) → (∀ (i : Nat) (v : Value) (x : V), bs[i]? = some v → ys[i]? = some x → RA w F β o v x) → scals ks as bs = true ∧ vEqs as bs = e.den
  | k :: ks, x :: r, y :: q, e, h, a :: as, b :: bs, h1, h2, h3, h4 => by
    have ha := h3 0 a x rfl rfl
    have hb := h4 0 b y rfl rfl
    have ih := fun e' (he : eqA ks r q = some e') => eqA_run he (as := as) (bs := bs) (by simpa using h1) (by simpa using h2) (fun i v x hv hx => h3 (i + 1) v x (by simpa using hv) (by simpa using hx)) (fun i v x hv hx => h4 (i + 1) v x (by simpa using hv) (by simpa using hx))
    simp only [eqA] at h
    split at h
    · obtain ⟨hk, h⟩ := bif_some2 h
      simp only [keq, decide_eq_true_eq] at hk
      split at h
      · rename_i e' he
        simp only [Option.some.injEq] at h; subst h
        obtain ⟨g1, g2⟩ := ih e' he
        obtain ⟨rfl, _⟩ := RA.of_int ha
        obtain ⟨rfl, _⟩ := RA.of_int hb
        subst hk
        exact ⟨by simp [scals, scal2, g1], by rw [andB_den, cmpI_den]; simp [vEqs, vEq, g2, cmpD]⟩
      · cases h
    · split at h
      · rename_i e' he
        simp only [Option.some.injEq] at h; subst h
        obtain ⟨g1, g2⟩ := ih e' he
        have h5 := RA.of_bool ha
        have h6 := RA.of_bool hb
        subst h5; subst h6
        exact ⟨by simp [scals, scal2, g1], by rw [andB_den]; simp [vEqs, vEq, g2, BE.den]⟩
      · cases h
    · split at h
      · rename_i e' he
        simp only [Option.some.injEq] at h; subst h
        obtain ⟨g1, g2⟩ := ih e' he
        obtain ⟨rfl, _⟩ := RA.of_str ha
        obtain ⟨rfl, _⟩ := RA.of_str hb
        have hl : ∀ l : List UInt8, (ByteArray.mk l.toArray).toList = l := fun l => ByteArray.toList_mk l
        exact ⟨by simp [scals, scal2, g1], by rw [andB_den]; simp [vEqs, vEq, g2, BE.den, hl]⟩
      · cases h
    · cases h
  | [], [], [], e, h, [], [], _, _, _, _ => by simp only [eqA, Option.some.injEq] at h; subst h; simp [scals, vEqs, BE.den]
  | _ :: _, _ :: _, _ :: _, _, _, [], _, h1, _, _, _ => by simp at h1
  | _ :: _, _ :: _, _ :: _, _, _, _ :: _, [], _, h2, _, _ => by simp at h2
  | [], [], [], _, _, _ :: _, _, h1, _, _, _ => by simp at h1
  | [], [], [], _, _, [], _ :: _, _, h2, _, _ => by simp at h2
  | [], _ :: _, _, _, h, _, _, _, _, _, _ => by simp [eqA] at h
  | [], [], _ :: _, _, h, _, _, _, _, _, _ => by simp [eqA] at h
  | _ :: _, [], _, _, h, _, _, _, _, _, _ => by simp [eqA] at h
  | _ :: _, _ :: _, [], _, h, _, _, _, _, _, _ => by simp [eqA] at h

theorem equalIn_func_nil {P : Program} {t : TypeId} {a1 a2 : Array TypeId} {a3 : Bool} (h : P.underlying t = some (.func a1 a2 a3)) (d : Nat) (f : Fn) (fs cs : Array Value) (w : World) : (Op.equalIn (d + 1) t (.func f fs cs) .nilFunc).run P w = .ok false w := by
  rw [Op.equalIn]; simp only [Sem.run_bind, run_underlying h, Result.andThen_ok, Sem.run_pure]
theorem equalIn_nil_nil {P : Program} {t : TypeId} {a1 a2 : Array TypeId} {a3 : Bool} (h : P.underlying t = some (.func a1 a2 a3)) (d : Nat) (w : World) : (Op.equalIn (d + 1) t .nilFunc .nilFunc).run P w = .ok true w := by
  rw [Op.equalIn]; simp only [Sem.run_bind, run_underlying h, Result.andThen_ok, Sem.run_pure]
theorem eql_func {P : Program} {t : TypeId} {f : Fn} {fs cs : Array Value} {b : Bool} {w : World} (h : (Op.equalIn 10000 t (.func f fs cs) .nilFunc).run P w = .ok b w) : (binOp .eql t (.func f fs cs) .nilFunc).run P w = .ok (.bool b) w ∧ (binOp .neq t (.func f fs cs) .nilFunc).run P w = .ok (.bool (!b)) w := by
  constructor <;> simp only [binOp, Op.equal, Op.maxDepth, Sem.run_bind, h, Result.andThen_ok, Sem.run_pure]
theorem eql_nil {P : Program} {t : TypeId} {b : Bool} {w : World} (h : (Op.equalIn 10000 t .nilFunc .nilFunc).run P w = .ok b w) : (binOp .eql t .nilFunc .nilFunc).run P w = .ok (.bool b) w ∧ (binOp .neq t .nilFunc .nilFunc).run P w = .ok (.bool (!b)) w := by
  constructor <;> simp only [binOp, Op.equal, Op.maxDepth, Sem.run_bind, h, Result.andThen_ok, Sem.run_pure]
theorem eql_slnil {P : Program} {t : TypeId} {b : Bool} {w : World} {ad : Option Addr} {n cc : Nat} (h : (Op.equalIn 10000 t (.slice ad n cc) (.slice none 0 0)).run P w = .ok b w) : (binOp .eql t (.slice ad n cc) (.slice none 0 0)).run P w = .ok (.bool b) w ∧ (binOp .neq t (.slice ad n cc) (.slice none 0 0)).run P w = .ok (.bool (!b)) w := by
  constructor <;> simp only [binOp, Op.equal, Op.maxDepth, Sem.run_bind, h, Result.andThen_ok, Sem.run_pure]
theorem equalIn_ptr_nil {P : Program} {t el : TypeId} (h : P.underlying t = some (.pointer el)) (d : Nat) (a : Option Addr) (w : World) : (Op.equalIn (d + 1) t (.pointer a) (.pointer none)).run P w = .ok a.isNone w := by
  cases a <;> (rw [Op.equalIn]; simp only [Sem.run_bind, run_underlying h, Result.andThen_ok, Sem.run_pure, Option.isNone])
theorem eql_ptr {P : Program} {t : TypeId} {a a' : Option Addr} {b : Bool} {w : World} (h : (Op.equalIn 10000 t (.pointer a) (.pointer a')).run P w = .ok b w) : (binOp .eql t (.pointer a) (.pointer a')).run P w = .ok (.bool b) w ∧ (binOp .neq t (.pointer a) (.pointer a')).run P w = .ok (.bool (!b)) w := by
  constructor <;> simp only [binOp, Op.equal, Op.maxDepth, Sem.run_bind, h, Result.andThen_ok, Sem.run_pure]
theorem rptr_val' {w : World} {F : Nat → Prop} {v : Value} {xs : List V} (h : RD w F v (.rptr xs)) : ∃ a, v = .pointer (some a) := by
  generalize hx : V.rptr xs = x at h
  cases h with
  | nilsl x sz hx' => subst hx; simp [V.elems] at hx'
  | slice x sz es hx' => subst hx; simp [V.elems] at hx'
  | rptr a xs => exact ⟨a, rfl⟩
  | _ => cases hx
theorem eqB_run {P : Program} {c : Ctx} (hT : TabOk P c.T) (hE : EqsOk P c.E) {o : Own} {t : TypeId} {x y : V} {a b : Value} {e : BE} (ha : RA w F β o a x) (hb : RA w F β o b y) (h : eqB c t x y = some e) :
    (∀ (op : BinOp) (ox oy : Operand) w', (eqGuard op t ox oy a b).run P w' = .ok () w') ∧ (∀ w', (binOp .eql t a b).run P w' = .ok (.bool e.den) w') ∧ (∀ w', (binOp .neq t a b).run P w' = .ok (.bool (!e.den)) w') := by
  have agg : ∀ (xs ys : List V) (cs : Nat → Nat), (∃ fs, P.underlying t = some (.struct fs)) ∨ (∃ m el, P.underlying t = some (.array m el)) → RA w F β o a (.agg xs) → RA w F β o b (.agg ys) → (∃ ks, elook c.E t = some ks ∧ eqA ks xs ys = some e) →
      (∀ (op : BinOp) (ox oy : Operand) w', (eqGuard op t ox oy a b).run P w' = .ok () w') ∧ (∀ w', (binOp .eql t a b).run P w' = .ok (.bool e.den) w') ∧ (∀ w', (binOp .neq t a b).run P w' = .ok (.bool (!e.den)) w') := by
    intro xs ys _ hu ha hb ⟨ks, hk, he⟩
    obtain ⟨g1, g2⟩ := hE.ok t ks hk
    obtain ⟨as, rfl, h1, _, h3⟩ := RA.of_agg ha
    obtain ⟨bs, rfl, k1, _, k3⟩ := RA.of_agg hb
    obtain ⟨m1, m2⟩ := eqA_run he (as := as.toList) (bs := bs.toList) (by simpa using h1) (by simpa using k1) (fun i v x hv hx => h3 i v x (by simpa using hv) hx) (fun i v x hv hx => k3 i v x (by simpa using hv) hx)
    have hof : ∀ cs : List Value, ofCells P t cs = .agg cs.toArray := fun cs => by
      unfold ofCells
      rcases hu with ⟨fs, hu⟩ | ⟨m, el, hu⟩ <;> rw [hu]
    have heq := fun w' => equal_of 60 g1 10000 (by omega) as.toList bs.toList m1 w'
    simp only [hof, Array.toArray_toList] at heq
    refine ⟨fun op ox oy w' => run_eqGuard_agg w' op t ox oy as bs g2, fun w' => ?_, fun w' => ?_⟩
    · rw [run_eql_struct, heq, m2]; rfl
    · rw [run_neq_struct, heq, m2]; rfl
  unfold eqB at h
  split at h
  · rename_i q1 q2 q3 e1 e2 ht
    simp only [Option.some.injEq] at h; subst h
    obtain ⟨i1, z1, d1, k1, k2, k3, _⟩ := hT.ok _ _ ht
    cases d1 <;> simp only [TD.of, reduceCtorEq] at k3
    have h1 := RA.of_bool ha
    have h2 := RA.of_bool hb
    subst h1; subst h2
    refine ⟨fun op ox oy w' => by unfold eqGuard; cases op <;> rfl, fun w' => ?_, fun w' => ?_⟩
    · simp [binOp, run_equal_bool w' t _ _ k2, BE.den]
    · simp [binOp, run_equal_bool w' t _ _ k2, BE.den]
  · rename_i q1 q2 q3 f xs ys ht
    simp only [Option.some.injEq] at h; subst h
    obtain ⟨i1, z1, d1, k1, k2, k3, _⟩ := hT.ok _ _ ht
    cases d1 <;> simp only [TD.of, reduceCtorEq] at k3
    obtain ⟨fs, cs, rfl, _⟩ := RA.of_fn ha
    have h2 := RA.of_nilfn hb
    subst h2
    exact ⟨fun op ox oy w' => by unfold eqGuard; cases op <;> rfl, fun w' => (eql_func (equalIn_func_nil k2 9999 _ _ _ w')).1, fun w' => (eql_func (equalIn_func_nil k2 9999 _ _ _ w')).2⟩
  · rename_i q1 q2 q3 ht
    simp only [Option.some.injEq] at h; subst h
    obtain ⟨i1, z1, d1, k1, k2, k3, _⟩ := hT.ok _ _ ht
    cases d1 <;> simp only [TD.of, reduceCtorEq] at k3
    have h1 := RA.of_nilfn ha
    have h2 := RA.of_nilfn hb
    subst h1; subst h2
    exact ⟨fun op ox oy w' => by unfold eqGuard; cases op <;> rfl, fun w' => (eql_nil (equalIn_nil_nil k2 9999 w')).1, fun w' => (eql_nil (equalIn_nil_nil k2 9999 w')).2⟩
  · rename_i el q1 q2 q3 ht
    simp only [Option.some.injEq] at h; subst h
    obtain ⟨i1, z1, d1, k1, k2, k3, _⟩ := hT.ok _ _ ht
    cases d1 <;> simp only [TD.of, reduceCtorEq] at k3
    have h1 := RA.of_nilsl ha
    have h2 := RA.of_nilsl hb
    subst h1; subst h2
    exact ⟨fun op ox oy w' => by unfold eqGuard; cases op <;> rfl, fun w' => (eql_slnil (run_equalIn_slice_nil w' 9999 t _ none 0 0 k2)).1, fun w' => (eql_slnil (run_equalIn_slice_nil w' 9999 t _ none 0 0 k2)).2⟩
  · rename_i el q1 q2 q3 id off ht
    simp only [Option.some.injEq] at h; subst h
    obtain ⟨i1, z1, d1, k1, k2, k3, _⟩ := hT.ok _ _ ht
    cases d1 <;> simp only [TD.of, reduceCtorEq] at k3
    obtain ⟨bb, cs, _, _, rfl⟩ := RA.of_ptr ha
    have h2 := RA.of_nilptr hb
    subst h2
    exact ⟨fun op ox oy w' => by unfold eqGuard; cases op <;> rfl, fun w' => (eql_ptr (equalIn_ptr_nil k2 9999 _ w')).1, fun w' => (eql_ptr (equalIn_ptr_nil k2 9999 _ w')).2⟩
  · rename_i el q1 q2 q3 xs ht
    simp only [Option.some.injEq] at h; subst h
    obtain ⟨i1, z1, d1, k1, k2, k3, _⟩ := hT.ok _ _ ht
    cases d1 <;> simp only [TD.of, reduceCtorEq] at k3
    obtain ⟨ad, rfl⟩ := rptr_val' (RA.of_rptr ha)
    have h2 := RA.of_nilptr hb
    subst h2
    exact ⟨fun op ox oy w' => by unfold eqGuard; cases op <;> rfl, fun w' => (eql_ptr (equalIn_ptr_nil k2 9999 _ w')).1, fun w' => (eql_ptr (equalIn_ptr_nil k2 9999 _ w')).2⟩
  · rename_i el q1 q2 q3 ht
    simp only [Option.some.injEq] at h; subst h
    obtain ⟨i1, z1, d1, k1, k2, k3, _⟩ := hT.ok _ _ ht
    cases d1 <;> simp only [TD.of, reduceCtorEq] at k3
    have h1 := RA.of_nilptr ha
    have h2 := RA.of_nilptr hb
    subst h1; subst h2
    exact ⟨fun op ox oy w' => by unfold eqGuard; cases op <;> rfl, fun w' => (eql_ptr (equalIn_ptr_nil k2 9999 _ w')).1, fun w' => (eql_ptr (equalIn_ptr_nil k2 9999 _ w')).2⟩
  · rename_i fs q1 q2 q3 xs ys ht
    obtain ⟨i1, z1, d1, k1, k2, k3, _⟩ := hT.ok _ _ ht
    cases d1 <;> simp only [TD.of, reduceCtorEq] at k3
    split at h
    · rename_i ks hk
      exact agg xs ys id (.inl ⟨_, k2⟩) ha hb ⟨ks, hk, h⟩
    · cases h
  · rename_i m el q1 q2 q3 xs ys ht
    obtain ⟨i1, z1, d1, k1, k2, k3, _⟩ := hT.ok _ _ ht
    cases d1 <;> simp only [TD.of, reduceCtorEq] at k3
    split at h
    · rename_i ks hk
      exact agg xs ys id (.inr ⟨_, _, k2⟩) ha hb ⟨ks, hk, h⟩
    · cases h
  · cases h

theorem eqV_run {P : Program} {c : Ctx} (hT : TabOk P c.T) (hE : EqsOk P c.E) {o : Own} {op : BinOp} {t : TypeId} {ox oy : Operand} {x y : V} {a b : Value} {z : V} (ha : RA w F β o a x) (hb : RA w F β o b y) (h : eqV c op t x y = some z) :
    ∃ v, (∀ w', (do eqGuard op t ox oy a b; binOp op t a b : Sem Value).run P w' = .ok v w') ∧ RA w F β o v z := by
  unfold eqV at h
  split at h
  · split at h
    · rename_i e he
      simp only [Option.some.injEq] at h; subst h
      obtain ⟨g1, g2, _⟩ := eqB_run hT hE ha hb he
      exact ⟨.bool e.den, fun w' => by simp only [Sem.run_bind, g1, Result.andThen_ok, g2], ra_bool rfl⟩
    · cases h
  · split at h
    · rename_i e he
      simp only [Option.some.injEq] at h; subst h
      obtain ⟨g1, _, g2⟩ := eqB_run hT hE ha hb he
      exact ⟨.bool (!e.den), fun w' => by simp only [Sem.run_bind, g1, Result.andThen_ok, g2], ra_bool (notB_den _)⟩
    · cases h
  · cases h

theorem pure_run' {w0 : World} {F0 S0 : Nat → Prop} {s : St} {tm : Array Value} {a : Act} (ha : a.tmps = tm) (hr : Rel P c w0 F0 S0 F β s tm w) {im : List (Nat × Bool)} (him : ∀ t b, (t, b) ∈ im → tm.getD t undef = .bool b)
    {op : Oper} {z : V} (h : pureV c s.e s.o im op.op = some z) {H : World → Prop} (hA : ∀ w', H w' → ∀ b, b < w.heap.size → ¬ F b → w'.heap[b]? = w.heap[b]?)
    (hB : ∀ t x id off, op.op = .load t x → res s.e im (evalO c s.e x) = .ptr id off → ∀ w' b, H w' → β id = some b → w'.heap[b]? = w.heap[b]?) :
    ∃ v, (∀ w', H w' → (execOp a.eval op).run P w' = .ok (.value v) w') ∧ RA w F β s.o v z := by
  have hres := fun x => res_ra ha hr him x
  unfold execOp
  generalize op.op = q at h hB
  unfold pureV at h
  split at h
  · -- move
    simp only [Option.some.injEq] at h; subst h
    exact ⟨_, fun w' _ => rfl, hres _⟩
  · simp only [Option.some.injEq] at h; subst h
    exact ⟨_, fun w' _ => rfl, hres _⟩
  · -- pick
    rename_i cd x y
    have hc := hres cd
    split at h
    · rename_i hq
      rw [hq] at hc
      have := RA.of_bool hc
      simp only [Option.some.injEq] at h; subst h
      exact ⟨_, fun w' _ => by simp [this, asBool, BE.den], hres x⟩
    · rename_i hq
      rw [hq] at hc
      have := RA.of_bool hc
      simp only [Option.some.injEq] at h; subst h
      exact ⟨_, fun w' _ => by simp [this, asBool, BE.den], hres y⟩
    · rename_i q hn1 hn2 hq
      rw [hq] at hc
      have hcd := RA.of_bool hc
      split at h
      · rename_i t
        have htm : a.eval (.tmp t) = tm.getD t undef := by simp [Act.eval, ha]
        have hT : q.den = true → RA w F β s.o (a.eval x) (res s.e ((t, true) :: im) (evalO c s.e x)) := fun hd => res_ra ha hr (fun t' b' hm => by
          rcases List.mem_cons.1 hm with hm | hm
          · simp only [Prod.mk.injEq] at hm; obtain ⟨rfl, rfl⟩ := hm; rw [← htm, hcd, hd]
          · exact him _ _ hm) x
        have hF : q.den = false → RA w F β s.o (a.eval y) (res s.e ((t, false) :: im) (evalO c s.e y)) := fun hd => res_ra ha hr (fun t' b' hm => by
          rcases List.mem_cons.1 hm with hm | hm
          · simp only [Prod.mk.injEq] at hm; obtain ⟨rfl, rfl⟩ := hm; rw [← htm, hcd, hd]
          · exact him _ _ hm) y
        refine ⟨if q.den = true then a.eval x else a.eval y, fun w' _ => by simp only [Sem.run_bind, hcd, asBool, Sem.run_pure, Result.andThen_ok], ?_⟩
        split at h
        · rename_i x1 y1 hx1 hy1
          simp only [Option.some.injEq] at h; subst h
          rw [hx1] at hT; rw [hy1] at hF
          cases hd : q.den with
          | true => have := RA.of_bool (hT hd); simp only [if_true, this]; exact ra_bool (by rw [iteB_den, hd]; simp)
          | false => have := RA.of_bool (hF hd); simp only [Bool.false_eq_true, if_false, this]; exact ra_bool (by rw [iteB_den, hd]; simp)
        · rename_i k x1 k' y1 hx1 hy1
          obtain ⟨hk, rfl⟩ := bif_some h
          simp only [keq, decide_eq_true_eq] at hk
          subst hk
          rw [hx1] at hT; rw [hy1] at hF
          cases hd : q.den with
          | true => obtain ⟨h1, h2⟩ := RA.of_int (hT hd); simp only [if_true, h1]; exact ra_int (by simp [IE.den, hd]) h2
          | false => obtain ⟨h1, h2⟩ := RA.of_int (hF hd); simp only [Bool.false_eq_true, if_false, h1]; exact ra_int (by simp [IE.den, hd]) h2
        · cases h
      · cases h
    · cases h
  · -- binOp
    rename_i op' xt x y yt
    have hv : ∃ v, (∀ w', (do eqGuard op' xt x y (a.eval x) (a.eval y); binOp op' xt (a.eval x) (a.eval y) : Sem Value).run P w' = .ok v w') ∧ RA w F β s.o v z := by
      split at h
      · rename_i v hb
        simp only [Option.some.injEq] at h; subst h
        exact binV_run (hres x) (hres y) hb
      · exact eqV_run hr.tab hr.eqs (hres x) (hres y) h
    obtain ⟨v, h1, h2⟩ := hv
    exact ⟨v, fun w' _ => by have h1 := h1 w'; simp only [Sem.run_bind, Sem.run_pure] at h1 ⊢; rw [h1]; rfl, h2⟩
  · -- unOp
    rename_i op' xt x
    have hx := hres x
    split at h
    · rename_i k e1 hq
      rw [hq] at hx
      obtain ⟨h1, h2⟩ := RA.of_int hx
      simp only [Option.some.injEq] at h; subst h
      exact ⟨.int k (arD .sub k 0 e1.den), fun w' _ => by simp [h1, Op.unary, Op.intArith, arD], ra_int (by rw [arI_den]; rfl) (wrap_has _ _)⟩
    · rename_i b1 hq
      rw [hq] at hx
      have h1 := RA.of_bool hx
      simp only [Option.some.injEq] at h; subst h
      exact ⟨.bool (!b1.den), fun w' _ => by simp [h1, Op.unary], ra_bool (notB_den _)⟩
    · cases h
  · -- convert
    rename_i sT dT x
    have hx := hres x
    split at h
    · rename_i ti1 k q1 q2 q3 k' e1 hs hd hq
      rw [hq] at hx
      obtain ⟨h1, h2⟩ := RA.of_int hx
      simp only [Option.some.injEq] at h; subst h
      obtain ⟨i1, z1, d1, g1, g2, g3, _⟩ := hr.tab.ok _ _ hs
      obtain ⟨i2, z2, d2, f1, f2, f3, f4⟩ := hr.tab.ok _ _ hd
      cases d2 <;> simp only [TD.of, reduceCtorEq, TD.int.injEq] at f3
      rename_i kk
      subst f3
      exact ⟨.int kk (kk.wrap e1.den), fun w' _ => by simp [convert, run_underlying g2, run_underlying f2, h1, Conv.intToInt], ra_int (wrapI_den h2) (wrap_has _ _)⟩
    · rename_i ti1 q1 q2 q3 e1 hs hd hq
      rw [hq] at hx
      obtain ⟨h1, h2⟩ := RA.of_str hx
      simp only [Option.some.injEq] at h; subst h
      obtain ⟨i1, z1, d1, g1, g2, g3, _⟩ := hr.tab.ok _ _ hs
      obtain ⟨i2, z2, d2, f1, f2, f3, f4⟩ := hr.tab.ok _ _ hd
      cases d2 <;> simp only [TD.of, reduceCtorEq] at f3
      rw [h1] at hx
      exact ⟨_, fun w' _ => by simp [convert, run_underlying g2, run_underlying f2, h1], hx⟩
    · cases h
  · -- field
    rename_i t x i
    have hx := hres x
    split at h
    · rename_i fs q1 q2 q3 cs ht hq
      rw [hq] at hx
      obtain ⟨vs, h1, h2, h3, h4⟩ := RA.of_agg hx
      split at h
      · rename_i off ft hf
        split at h
        · rename_i ti hti
          obtain ⟨v, g1, g2⟩ := part_run hr.tab hti h2 h3 h4 h
          refine ⟨v, fun w' _ => ?_, g2⟩
          obtain ⟨i1, z1, d1, k1, k2, k3, k4⟩ := hr.tab.ok _ _ ht
          cases d1 <;> simp only [TD.of, reduceCtorEq] at k3
          rename_i fields
          simp only [TD.struct.injEq] at k3
          rw [nthf_eq, ← k3] at hf
          simp only [List.getElem?_map, Option.map_eq_some_iff, Prod.mk.injEq] at hf
          obtain ⟨f, hf1, rfl, rfl⟩ := hf
          have hf2 : fields[i]? = some f := by simpa using hf1
          simp [Instr.field, run_underlying k2, hf2, h1, asAgg, g1]
        · cases h
      · cases h
    · cases h
  · -- extract
    rename_i x i
    have hx := hres x
    split at h
    · rename_i vs hq
      rw [hq] at hx
      obtain ⟨cs, h1, h2, h3⟩ := RA.of_tup hx
      rw [nthv_eq] at h
      have hlt : i < cs.size := by rw [h2]; exact (List.getElem?_eq_some_iff.1 h).1
      have hc : cs[i]? = some cs[i] := Array.getElem?_eq_getElem hlt
      exact ⟨cs[i], fun w' _ => by simp [Instr.extract, h1, hc], h3 i _ z hc h⟩
    · cases h
  · -- len
    rename_i x t
    have hx := hres x
    split at h
    · rename_i el q1 q2 q3 hti
      obtain ⟨i1, z1, d1, k1, k2, k3, k4⟩ := hr.tab.ok _ _ hti
      cases d1 <;> simp only [TD.of, reduceCtorEq] at k3
      have hsl : ∀ (n cc : Nat) (ad : Option Addr), a.eval x = .slice ad n cc → ∀ w', (Builtin.len_ #[t] op.type #[a.eval x]).run P w' = .ok (.int .i64 n) w' := by
        intro n cc ad he w'
        simp [Builtin.len_, run_underlying k2, he, goInt]
      have fin : ∀ (y : V) (sz : Nat) (es : List V) (e1 : IE), RA w F β s.o (a.eval x) y → y.elems = some (sz, es) → e1.den = (es.length : Int) → z = .int .i64 e1 →
          ∃ v, (∀ w', (Builtin.len_ #[t] op.type #[a.eval x]).run P w' = .ok v w') ∧ RA w F β s.o v z := by
        intro y sz es e1 hy he hd hz
        obtain ⟨ad, cc, h1, h2⟩ := slice_val (RA.of_elems hy he) he
        exact ⟨_, hsl _ _ _ h1, by rw [hz]; exact ra_int hd (has_len h2)⟩
      have : ∃ v, (∀ w', (Builtin.len_ #[t] op.type #[a.eval x]).run P w' = .ok v w') ∧ RA w F β s.o v z := by
        unfold lenV at h
        split at h
        · rename_i sz α f l hq
          rw [hq] at hx
          simp only [Option.some.injEq] at h
          exact fin _ _ _ _ hx rfl (by simp [IE.den]) h.symm
        · rename_i sz vs hq
          rw [hq] at hx
          simp only [Option.some.injEq] at h
          exact fin _ _ _ _ hx rfl (by simp [IE.den]) h.symm
        · rename_i hq
          rw [hq] at hx
          simp only [Option.some.injEq] at h
          exact fin _ _ _ _ hx rfl (by simp [IE.den]) h.symm
        · rename_i id hq
          rw [hq] at hx
          split at h
          · rename_i fx1 e1 sz1 α1 f1 l1 ho
            simp only [Option.some.injEq] at h
            subst h
            obtain ⟨fx2, e2, sz2, α2, f2, l2, g1, g2⟩ := RA.of_osl hx
            rw [ho] at g1
            simp only [Option.some.injEq, Ent.arr.injEq] at g1
            obtain ⟨_, _, _, rfl, hf, hl⟩ := g1
            have hl := eq_of_heq hl
            subst hl
            rcases g2 with ⟨rfl, g2⟩ | ⟨b, cc, cur, _, g2, _, _, g3, _⟩
            · exact ⟨_, hsl _ _ _ g2, ra_int (by simp [IE.den]) (by rw [has_iff]; simp [lo, hi])⟩
            · exact ⟨_, hsl _ _ _ g2, ra_int (by simp [IE.den]) (has_len g3)⟩
          · cases h
        · rename_i id lo0 n hq
          rw [hq] at hx
          simp only [Option.some.injEq] at h
          subst h
          obtain ⟨fx2, e2, sz2, α2, f2, l2, i2, m2, g1, g2, g3, g4, g5⟩ := RA.of_view hx
          rcases g5 with ⟨g5, ad, cc, g6⟩ | ⟨b, cc, cur, g5, _, g6, _, _, g7, _⟩
          · exact ⟨_, hsl _ _ _ g6, ra_int (by rw [g3, g5]) (by rw [has_iff]; simp [lo, hi])⟩
          · exact ⟨_, hsl _ _ _ g6, ra_int g3 (has_len (by omega))⟩
        · cases h
      obtain ⟨v, h1, h2⟩ := this
      exact ⟨v, fun w' _ => by simp [resolve, invoke, builtin, h1], h2⟩
    · rename_i q1 q2 q3 hti
      obtain ⟨i1, z1, d1, k1, k2, k3, k4⟩ := hr.tab.ok _ _ hti
      cases d1 <;> simp only [TD.of, reduceCtorEq] at k3
      have hst : ∀ (l : List UInt8), a.eval x = .string ⟨l.toArray⟩ → ∀ w', (Builtin.len_ #[t] op.type #[a.eval x]).run P w' = .ok (.int .i64 l.length) w' := by
        intro l he w'
        have hsz : (ByteArray.mk l.toArray).size = l.length := rfl
        simp [Builtin.len_, run_underlying k2, he, goInt, hsz]
      have : ∃ v, (∀ w', (Builtin.len_ #[t] op.type #[a.eval x]).run P w' = .ok v w') ∧ RA w F β s.o v z := by
        unfold lenS at h
        split at h
        · rename_i l hq
          rw [hq] at hx
          obtain ⟨h1, h2⟩ := RA.of_str hx
          simp only [Option.some.injEq] at h
          subst h
          exact ⟨_, hst _ h1, ra_int (by simp [IE.den, SE.den]) (has_len h2)⟩
        · rename_i e1 hn hq
          rw [hq] at hx
          obtain ⟨h1, h2⟩ := RA.of_str hx
          simp only [Option.some.injEq] at h
          subst h
          exact ⟨_, hst _ h1, ra_int (by simp [IE.den]) (has_len h2)⟩
        · cases h
      obtain ⟨v, h1, h2⟩ := this
      exact ⟨v, fun w' _ => by simp [resolve, invoke, builtin, h1], h2⟩
    · cases h
  · -- min
    rename_i x y _
    have hx := hres x
    have hy := hres y
    unfold minV at h
    split at h
    · rename_i k e1 k' e2 hq1 hq2
      rw [hq1] at hx; rw [hq2] at hy
      obtain ⟨hk, rfl⟩ := bif_some h
      simp only [keq, decide_eq_true_eq] at hk
      subst hk
      obtain ⟨h1, h2⟩ := RA.of_int hx
      obtain ⟨h3, h4⟩ := RA.of_int hy
      refine ⟨.int k (if e2.den < e1.den then e2.den else e1.den), fun w' _ => by simp [resolve, invoke, builtin, Builtin.min_, Builtin.min2, h1, h3], ra_int (by simp [IE.den]) ?_⟩
      split <;> assumption
    · cases h
  · -- max
    rename_i x y _
    have hx := hres x
    have hy := hres y
    unfold minV at h
    split at h
    · rename_i k e1 k' e2 hq1 hq2
      rw [hq1] at hx; rw [hq2] at hy
      obtain ⟨hk, rfl⟩ := bif_some h
      simp only [keq, decide_eq_true_eq] at hk
      subst hk
      obtain ⟨h1, h2⟩ := RA.of_int hx
      obtain ⟨h3, h4⟩ := RA.of_int hy
      refine ⟨.int k (if e2.den > e1.den then e2.den else e1.den), fun w' _ => by simp [resolve, invoke, builtin, Builtin.max_, Builtin.max2, h1, h3], ra_int (by simp [IE.den]) ?_⟩
      split <;> assumption
    · cases h
  · -- load
    rename_i t x
    have hx := hres x
    split at h
    · rename_i ti cs hti hq
      rw [hq] at hx
      have hrp := RA.of_rptr hx
      obtain ⟨ad, had⟩ := rptr_val hrp
      rw [had] at hrp
      obtain ⟨b, off, hba, hbF, hbl, hc⟩ := Cells.of_rptr (o := s.o) (β := β) hrp
      simp only [Option.some.injEq] at hba
      subst hba
      obtain ⟨v, h1, h2⟩ := loadX_run hr.tab hti hc h
      exact ⟨v, fun w' hw => by simp [Instr.loadAt, Instr.sureAddr, had, h1 w' (hA w' hw b hbl hbF)], h2⟩
    · rename_i ti id off hti hq
      rw [hq] at hx
      split at h
      · rename_i cs ho
        obtain ⟨b, cs', g1, g2, g3⟩ := RA.of_ptr hx
        obtain ⟨b', g4, hc⟩ := Cells.of_var hr.own ho
        rw [g1] at g4
        simp only [Option.some.injEq] at g4
        subst g4
        have hc := hc.drop off
        rw [Nat.zero_add] at hc
        obtain ⟨v, h1, h2⟩ := loadX_run hr.tab hti hc h
        exact ⟨v, fun w' hw => by simp [Instr.loadAt, Instr.sureAddr, g3, h1 w' (hB t x id off rfl hq w' b hw g1)], h2⟩
      · cases h
    · cases h
  · -- fieldAddr
    rename_i t x i
    have hx := hres x
    split at h
    · rename_i fs q1 q2 q3 cs hti hq
      rw [hq] at hx
      have hrp := RA.of_rptr hx
      obtain ⟨ad, had⟩ := rptr_val hrp
      split at h
      · rename_i off ft hf
        split at h
        · rename_i ti hft
          obtain ⟨hz, rfl⟩ := bif_some h
          simp only [Bool.and_eq_true, ltN_iff] at hz
          have hrp' := hrp
          rw [had] at hrp'
          obtain ⟨b, o1, hba, _⟩ := Cells.of_rptr (o := s.o) (β := β) hrp'
          simp only [Option.some.injEq] at hba
          subst hba
          refine ⟨.pointer (some ⟨b, o1 + off, none⟩), fun w' _ => by simp only [Sem.run_bind, had, fieldAt_run hr.tab hti hf hft hz.1, Result.andThen_ok, Sem.run_pure], .d _ _ ?_⟩
          rw [had] at hrp
          generalize hv : Value.pointer (some (⟨b, o1, none⟩ : Addr)) = v at hrp
          generalize hxx : V.rptr cs = xx at hrp
          cases hrp with
          | rptr a' xs' hs hF hb cv hone hcv hr =>
            cases hxx; cases hv
            refine .rptr _ _ rfl hF hb (fun j => cv (off + j)) (fun j y hj => ?_) (fun j y hj => ?_) (fun j y hj => ?_)
            · rw [List.getElem?_drop] at hj; exact hone _ y hj
            · rw [List.getElem?_drop] at hj; rw [← hcv _ y hj, Nat.add_assoc]
            · rw [List.getElem?_drop] at hj; exact hr _ y hj
          | nilsl => cases hv
          | slice => cases hv
          | _ => cases hxx
        · cases h
      · cases h
    · rename_i fs q1 q2 q3 id o1 hti hq
      rw [hq] at hx
      split at h
      · rename_i off ft hf
        split at h
        · rename_i ti hft
          obtain ⟨hz, rfl⟩ := bif_some h
          simp only [ltN_iff] at hz
          obtain ⟨b, cs', g1, g2, g3⟩ := RA.of_ptr hx
          exact ⟨.pointer (some ⟨b, o1 + off, none⟩), fun w' _ => by simp only [Sem.run_bind, g3, fieldAt_run hr.tab hti hf hft hz, Result.andThen_ok, Sem.run_pure], .ptr _ _ b g1 cs' g2⟩
        · cases h
      · cases h
    · rename_i fs q1 q2 q3 id ix o1 hti hq
      rw [hq] at hx
      split at h
      · rename_i off ft hf
        split at h
        · rename_i ti hft
          obtain ⟨hz, rfl⟩ := bif_some h
          simp only [ltN_iff] at hz
          obtain ⟨b, fx1, e1, sz1, n1, α1, f1, l1, g1, g2, g3, g4, g5⟩ := RA.of_eptr hx
          refine ⟨.pointer (some ⟨b, n1 * sz1 + o1 + off, none⟩), fun w' _ => by simp only [Sem.run_bind, g5, fieldAt_run hr.tab hti hf hft hz, Result.andThen_ok, Sem.run_pure], ?_⟩
          rw [Nat.add_assoc]
          exact .eptr _ _ b g1 fx1 e1 sz1 _ n1 f1 l1 g2 g3 g4
        · cases h
      · cases h
    · cases h
  · -- makeFunc
    rename_i f first cap
    simp only [Option.some.injEq] at h; subst h
    refine ⟨.func (.func f) ⟨first.map a.eval⟩ ⟨cap.map a.eval⟩, fun w' _ => by simp [Instr.makeFunc], .fn _ _ _ _ _ (by simp) (by simp) ?_ ?_⟩
    · intro i v y hi hy
      simp only [List.getElem?_toArray, List.getElem?_map, Option.map_eq_some_iff] at hi hy
      obtain ⟨x, hx, rfl⟩ := hi
      obtain ⟨x', hx', rfl⟩ := hy
      rw [hx] at hx'
      cases hx'
      exact hres x
    · intro i v y hi hy
      simp only [List.getElem?_toArray, List.getElem?_map, Option.map_eq_some_iff] at hi hy
      obtain ⟨x, hx, rfl⟩ := hi
      obtain ⟨x', hx', rfl⟩ := hy
      rw [hx] at hx'
      cases hx'
      exact hres x
  · -- nilCheck
    rename_i x
    have hx := hres x
    split at h
    · rename_i id off hq
      rw [hq] at hx
      simp only [Option.some.injEq] at h; subst h
      obtain ⟨b, cs', g1, g2, g3⟩ := RA.of_ptr hx
      exact ⟨a.eval x, fun w' _ => by simp [g3], hx⟩
    · rename_i cs hq
      rw [hq] at hx
      simp only [Option.some.injEq] at h; subst h
      obtain ⟨ad, had⟩ := rptr_val (RA.of_rptr hx)
      exact ⟨a.eval x, fun w' _ => by simp [had], hx⟩
    · cases h
  · cases h

theorem pure_run {w0 : World} {F0 S0 : Nat → Prop} {s : St} {tm : Array Value} {a : Act} (ha : a.tmps = tm) (hr : Rel P c w0 F0 S0 F β s tm w) {im : List (Nat × Bool)} (him : ∀ t b, (t, b) ∈ im → tm.getD t undef = .bool b)
    {op : Oper} {z : V} (h : pureV c s.e s.o im op.op = some z) : ∃ v, Yields P a op w v ∧ RA w F β s.o v z := by
  obtain ⟨v, h1, h2⟩ := pure_run' (H := fun w' => w' = w) ha hr him h (fun w' hw b _ _ => by rw [hw]) (fun _ _ _ _ _ _ w' b hw _ => by rw [hw])
  exact ⟨v, h1 w rfl, h2⟩
end
end Go.Vg
/- What becomes of own things: substitution in values, the state after an operation. -/
namespace Go.Vg
open Go

/-- What stands in the place of own things. -/
structure Sub : Type 1 where
  osl : Nat → V
  ptr : Nat → Nat → V
  eptr : Nat → IE → Nat → V

mutual
def V.sub (σ : Sub) : V → V
  | .osl id => σ.osl id
  | .ptr id off => σ.ptr id off
  | .eptr id i off => σ.eptr id i off
  | .view id lo n => match σ.osl id with
    | .osl id' => .view id' lo n
    | _ => .junk
  | .mp id => match σ.ptr id 0 with
    | .ptr id' _ => .mp id'
    | _ => .junk
  | .fn f xs ys => .fn f (V.subl σ xs) (V.subl σ ys)
  | .agg cs => .agg (V.subl σ cs)
  | .tup cs => .tup (V.subl σ cs)
  | .opt t b v => .opt t b (V.sub σ v)
  | x => x
def V.subl (σ : Sub) : List V → List V
  | [] => []
  | x :: r => V.sub σ x :: V.subl σ r
end
theorem V.subl_eq (σ : Sub) (l : List V) : V.subl σ l = l.map (V.sub σ) := by
  induction l with
  | nil => simp [V.subl]
  | cons a r ih => simp [V.subl, ih]

def Ent.sub (σ : Sub) : Ent → Ent
  | .var cs => .var (V.subl σ cs)
  | e => e
def subE (σ : Sub) : Env → Env
  | [] => []
  | (k, x) :: r => (k, V.sub σ x) :: subE σ r
def subO (σ : Sub) : Own → Own
  | [] => []
  | (k, x) :: r => (k, Ent.sub σ x) :: subO σ r
theorem look_subE (σ : Sub) (e : Env) (t : Nat) : look (subE σ e) t = V.sub σ (look e t) := by
  induction e with
  | nil => simp [subE, look, V.sub]
  | cons a r ih =>
    obtain ⟨k, x⟩ := a
    simp only [subE, look, ih]
    cases (eqN k t) <;> simp
theorem olook_subO (σ : Sub) (o : Own) (t : Nat) : olook (subO σ o) t = (olook o t).map (Ent.sub σ) := by
  induction o with
  | nil => simp [subO, olook]
  | cons a r ih =>
    obtain ⟨k, x⟩ := a
    simp only [subO, olook, ih]
    cases (eqN k t) <;> simp

theorem RA.sub {w w' : World} {F F' : Nat → Prop} {β β' : Bt} {o o' : Own} {σ : Sub} (hd : ∀ v x, RD w F v x → RD w' F' v x)
    (h1 : ∀ v id, RA w F β o v (.osl id) → RA w' F' β' o' v (σ.osl id)) (h2 : ∀ v id off, RA w F β o v (.ptr id off) → RA w' F' β' o' v (σ.ptr id off))
    (h3 : ∀ v id i off, RA w F β o v (.eptr id i off) → RA w' F' β' o' v (σ.eptr id i off)) (h4 : ∀ v id id' lo n, σ.osl id = .osl id' → RA w F β o v (.view id lo n) → RA w' F' β' o' v (.view id' lo n)) (h5 : ∀ v id id' off, σ.ptr id 0 = .ptr id' off → RA w F β o v (.mp id) → RA w' F' β' o' v (.mp id')) {v : Value} {x : V} (h : RA w F β o v x) : RA w' F' β' o' v (V.sub σ x) := by
  have hdd : ∀ v x, RD w F v x → RA w' F' β' o' v (V.sub σ x) := by
    intro v x h
    induction h with
    | int k e n h hk => simp only [V.sub]; exact .d _ _ (.int k e n h hk)
    | bool e b h => simp only [V.sub]; exact .d _ _ (.bool e b h)
    | str e s h hl => simp only [V.sub]; exact .d _ _ (.str e s h hl)
    | nilsl x sz hx =>
      have : V.sub σ x = x := by cases x <;> simp [V.elems] at hx <;> simp [V.sub]
      rw [this]; exact .d _ _ (.nilsl x sz hx)
    | slice x sz es hx hnn a c hc hl hs hF hb hsz cv hone hcv hr ih =>
      have : V.sub σ x = x := by cases x <;> simp [V.elems] at hx <;> simp [V.sub]
      rw [this]; exact .d _ _ (hd _ _ (.slice x sz es hx hnn a c hc hl hs hF hb hsz cv hone hcv hr))
    | agg cs xs hl hone h ih =>
      simp only [V.sub, V.subl_eq]
      refine .agg _ _ (by simpa using hl) hone fun i c y hi hy => ?_
      rw [List.getElem?_map, Option.map_eq_some_iff] at hy
      obtain ⟨z, hz, rfl⟩ := hy
      exact ih i c z hi hz
    | tup cs xs hl h ih =>
      simp only [V.sub, V.subl_eq]
      refine .tup _ _ (by simpa using hl) fun i c y hi hy => ?_
      rw [List.getElem?_map, Option.map_eq_some_iff] at hy
      obtain ⟨z, hz, rfl⟩ := hy
      exact ih i c z hi hz
    | nilptr => simp only [V.sub]; exact .d _ _ .nilptr
    | nilfn => simp only [V.sub]; exact .d _ _ .nilfn
    | fn f fs cs xs ys hf hc _ _ ih1 ih2 =>
      simp only [V.sub, V.subl_eq]
      refine .fn _ _ _ _ _ (by simpa using hf) (by simpa using hc) (fun i c y hi hy => ?_) (fun i c y hi hy => ?_)
      · rw [List.getElem?_map, Option.map_eq_some_iff] at hy
        obtain ⟨z, hz, rfl⟩ := hy
        exact ih1 i c z hi hz
      · rw [List.getElem?_map, Option.map_eq_some_iff] at hy
        obtain ⟨z, hz, rfl⟩ := hy
        exact ih2 i c z hi hz
    | rptr a xs hs hF hb cv hone hcv hr ih => simp only [V.sub]; exact .d _ _ (hd _ _ (.rptr a xs hs hF hb cv hone hcv hr))
    | junk v => simp only [V.sub]; exact .junk _
  induction h with
  | d v x h => exact hdd v x h
  | osl id b hb fx e sz f l c h hc hm hl cur hcur hcap => simp only [V.sub]; exact h1 _ _ (.osl id b hb fx e sz f l c h hc hm hl cur hcur hcap)
  | osl0 id fx e sz f h => simp only [V.sub]; exact h1 _ _ (.osl0 id fx e sz f h)
  | view id b hb fx e sz f l c h hc hm hl cur hcur hcap lo n i m hlo hn him hpos =>
    simp only [V.sub]
    split
    · rename_i id' he; exact h4 _ _ _ _ _ he (.view id b hb fx e sz f l c h hc hm hl cur hcur hcap lo n i m hlo hn him hpos)
    · exact .junk _
  | view0 id fx e sz f l h lo n i hlo hn hi ad c =>
    simp only [V.sub]
    split
    · rename_i id' he; exact h4 _ _ _ _ _ he (.view0 id fx e sz f l h lo n i hlo hn hi ad c)
    · exact .junk _
  | ptr id off b hb cs h => simp only [V.sub]; exact h2 _ _ _ (.ptr id off b hb cs h)
  | eptr id off b hb fx e sz i n f l h hi hn => simp only [V.sub]; exact h3 _ _ _ _ (.eptr id off b hb fx e sz i n f l h hi hn)
  | mp id b hb f l h =>
    simp only [V.sub]
    split
    · rename_i id' off he; exact h5 _ _ _ _ he (.mp id b hb f l h)
    · exact .junk _
  | fn f fs cs xs ys hf hc _ _ ih1 ih2 =>
    simp only [V.sub, V.subl_eq]
    refine .fn _ _ _ _ _ (by simpa using hf) (by simpa using hc) (fun i c y hi hy => ?_) (fun i c y hi hy => ?_)
    · rw [List.getElem?_map, Option.map_eq_some_iff] at hy
      obtain ⟨z, hz, rfl⟩ := hy
      exact ih1 i c z hi hz
    · rw [List.getElem?_map, Option.map_eq_some_iff] at hy
      obtain ⟨z, hz, rfl⟩ := hy
      exact ih2 i c z hi hz
  | agg cs xs hl hone _ ih =>
    simp only [V.sub, V.subl_eq]
    refine .agg _ _ (by simpa using hl) hone fun i c y hi hy => ?_
    rw [List.getElem?_map, Option.map_eq_some_iff] at hy
    obtain ⟨z, hz, rfl⟩ := hy
    exact ih i c z hi hz
  | tup cs xs hl _ ih =>
    simp only [V.sub, V.subl_eq]
    refine .tup _ _ (by simpa using hl) fun i c y hi hy => ?_
    rw [List.getElem?_map, Option.map_eq_some_iff] at hy
    obtain ⟨z, hz, rfl⟩ := hy
    exact ih i c z hi hz
  | junk v => simp only [V.sub]; exact .junk _

/-- Own things as they are. -/
def sid : Sub := ⟨.osl, .ptr, .eptr⟩
mutual
theorem V.sub_id : (x : V) → V.sub sid x = x
  | .int _ _ => by simp [V.sub] | .bool _ => by simp [V.sub] | .str _ => by simp [V.sub] | .sl _ _ _ => by simp [V.sub] | .sls _ _ => by simp [V.sub]
  | .nilsl => by simp [V.sub] | .agg cs => by simp [V.sub, V.subl_id cs] | .tup cs => by simp [V.sub, V.subl_id cs] | .osl _ => by simp [V.sub, sid] | .view _ _ _ => by simp [V.sub, sid]
  | .ptr _ _ => by simp [V.sub, sid] | .eptr _ _ _ => by simp [V.sub, sid] | .rptr _ => by simp [V.sub] | .fn _ xs ys => by simp [V.sub, V.subl_id xs, V.subl_id ys]
  | .nilptr => by simp [V.sub] | .nilfn => by simp [V.sub] | .mp _ => by simp [V.sub, sid] | .opt _ _ v => by simp [V.sub, V.sub_id v] | .nb _ => by simp [V.sub] | .junk => by simp [V.sub]
theorem V.subl_id : (l : List V) → V.subl sid l = l
  | [] => by simp [V.subl]
  | x :: r => by simp [V.subl, V.sub_id x, V.subl_id r]
end

/-- How own things stand, behind a turn, to what they were: 'id' is 'id'' now. -/
structure Same (w : World) (β : Bt) (o : Own) (w' : World) (β' : Bt) (o' : Own) (id id' : Nat) : Prop where
  bt : β' id' = β id
  var : ∀ cs, olook o id = some (.var cs) → ∃ cs', olook o' id' = some (.var cs')
  arr : ∀ fx e sz (α : Type) (f : α → V) (l : List α), olook o id = some (.arr fx e sz f l) → ∃ (fx' : Bool) (α' : Type) (f' : α' → V) (l' : List α'), olook o' id' = some (.arr fx' e sz f' l') ∧ l'.length = l.length ∧
    ∀ b cur, β id = some b → w.heap[b]? = some (.cells cur e (0, 0)) → ∃ cur', w'.heap[b]? = some (.cells cur' e (0, 0)) ∧ cur'.size = cur.size
  map : ∀ (α : Type) (f : α → V) (l : List (Int × α)), olook o id = some (.map f l) → ∃ (α' : Type) (f' : α' → V) (l' : List (Int × α')), olook o' id' = some (.map f' l')

theorem Same.osl {w w' : World} {F F' : Nat → Prop} {β β' : Bt} {o o' : Own} {id id' : Nat} (h : Same w β o w' β' o' id id') {v : Value} (hv : RA w F β o v (.osl id)) : RA w' F' β' o' v (.osl id') := by
  obtain ⟨fx, e, sz, α, f, l, h1, h2⟩ := RA.of_osl hv
  obtain ⟨fx', α', f', l', g1, g2, g3⟩ := h.arr _ _ _ _ _ _ h1
  rcases h2 with ⟨rfl, rfl⟩ | ⟨b, c, cur, k1, rfl, k2, k3, k4, k5, k6⟩
  · have : l' = [] := List.eq_nil_of_length_eq_zero (by simpa using g2)
    subst this
    exact .osl0 id' fx' e sz f' g1
  · obtain ⟨cur', m1, m2⟩ := g3 b cur k1 k5
    rw [← g2]
    exact .osl id' b (h.bt.trans k1) fx' e sz f' l' c g1 (by omega) k3 (by omega) cur' m1 (by omega)
theorem Same.view {w w' : World} {F F' : Nat → Prop} {β β' : Bt} {o o' : Own} {id id' : Nat} {lo n : IE} (h : Same w β o w' β' o' id id') {v : Value} (hv : RA w F β o v (.view id lo n)) : RA w' F' β' o' v (.view id' lo n) := by
  obtain ⟨fx, e, sz, α, f, l, i, m, h1, h2, h3, h4, h5⟩ := RA.of_view hv
  obtain ⟨fx', α', f', l', g1, g2, g3⟩ := h.arr _ _ _ _ _ _ h1
  rcases h5 with ⟨rfl, ad, c, rfl⟩ | ⟨b, c, cur, hpos, k1, rfl, k2, k3, k4, k5, k6⟩
  · exact .view0 id' fx' e sz f' l' g1 lo n i h2 h3 (by omega) ad c
  · obtain ⟨cur', m1, m2⟩ := g3 b cur k1 k5
    exact .view id' b (h.bt.trans k1) fx' e sz f' l' c g1 (by omega) k3 (by omega) cur' m1 (by omega) lo n i m h2 h3 (by omega) hpos
theorem Same.ptr {w w' : World} {F F' : Nat → Prop} {β β' : Bt} {o o' : Own} {id id' off : Nat} (h : Same w β o w' β' o' id id') {v : Value} (hv : RA w F β o v (.ptr id off)) : RA w' F' β' o' v (.ptr id' off) := by
  obtain ⟨b, cs, h1, h2, rfl⟩ := RA.of_ptr hv
  obtain ⟨cs', g⟩ := h.var cs h2
  exact .ptr id' off b (h.bt.trans h1) cs' g
theorem Same.eptr {w w' : World} {F F' : Nat → Prop} {β β' : Bt} {o o' : Own} {id id' off : Nat} {i : IE} (h : Same w β o w' β' o' id id') {v : Value} (hv : RA w F β o v (.eptr id i off)) : RA w' F' β' o' v (.eptr id' i off) := by
  obtain ⟨b, fx, e, sz, n, α, f, l, h1, h2, h3, h4, rfl⟩ := RA.of_eptr hv
  obtain ⟨fx', α', f', l', g1, g2, g3⟩ := h.arr _ _ _ _ _ _ h2
  exact .eptr id' off b (h.bt.trans h1) fx' e sz i n f' l' g1 h3 (by omega)

theorem Same.mp {w w' : World} {F F' : Nat → Prop} {β β' : Bt} {o o' : Own} {id id' : Nat} (h : Same w β o w' β' o' id id') {v : Value} (hv : RA w F β o v (.mp id)) : RA w' F' β' o' v (.mp id') := by
  obtain ⟨b, α, f, l, h1, h2, rfl⟩ := RA.of_mp hv
  obtain ⟨α', f', l', g⟩ := h.map α f l h2
  exact .mp id' b (h.bt.trans h1) f' l' g

/-- Where all own things that a value leans on stay. -/
theorem RA.stay {w w' : World} {F F' : Nat → Prop} {β β' : Bt} {o o' : Own} (hd : ∀ v x, RD w F v x → RD w' F' v x) (h : ∀ id ent, olook o id = some ent → Same w β o w' β' o' id id) {v : Value} {x : V} (hx : RA w F β o v x) : RA w' F' β' o' v x := by
  have := RA.sub (β' := β') (o' := o') (σ := sid) hd (fun v id hv => (by
    obtain ⟨fx, e, sz, α, f, l, h1, _⟩ := RA.of_osl hv
    exact (h id _ h1).osl hv)) (fun v id off hv => (by
    obtain ⟨b, cs, _, h1, _⟩ := RA.of_ptr hv
    exact (h id _ h1).ptr hv)) (fun v id i off hv => (by
    obtain ⟨b, fx, e, sz, n, α, f, l, _, h1, _⟩ := RA.of_eptr hv
    exact (h id _ h1).eptr hv)) (fun v id id' lo n he hv => (by
    simp only [sid, V.osl.injEq] at he
    subst he
    obtain ⟨fx, e, sz, α, f, l, i, m, h1, _⟩ := RA.of_view hv
    exact (h id _ h1).view hv)) (fun v id id' off he hv => (by
    simp only [sid, V.ptr.injEq] at he
    obtain ⟨rfl, _⟩ := he
    obtain ⟨b, α, f, l, _, h1, _⟩ := RA.of_mp hv
    exact (h id _ h1).mp hv)) hx
  rwa [V.sub_id] at this

/-- All refs to one own thing are struck. -/
def spurge (X : Nat) : Sub := ⟨fun id => bif (eqN id X) then .junk else .osl id, fun id off => bif (eqN id X) then .junk else .ptr id off, fun id i off => bif (eqN id X) then .junk else .eptr id i off⟩
theorem RA.purge {w w' : World} {F F' : Nat → Prop} {β β' : Bt} {o o' : Own} {X : Nat} (hd : ∀ v x, RD w F v x → RD w' F' v x) (h : ∀ id ent, id ≠ X → olook o id = some ent → Same w β o w' β' o' id id) {v : Value} {x : V} (hx : RA w F β o v x) :
    RA w' F' β' o' v (V.sub (spurge X) x) := by
  refine RA.sub hd (fun v id hv => ?_) (fun v id off hv => ?_) (fun v id i off hv => ?_) (fun v id id' lo n he hv => ?_) (fun v id id' off he hv => ?_) hx
  case refine_5 =>
    simp only [spurge] at he
    cases hb : (eqN id X) with
    | true => rw [hb] at he; cases he
    | false =>
      rw [hb] at he
      simp only [cond_false, V.ptr.injEq] at he
      obtain ⟨rfl, _⟩ := he
      have hne : id ≠ X := fun e => by subst e; simp at hb
      obtain ⟨b, α, f, l, _, h1, _⟩ := RA.of_mp hv
      exact (h id _ hne h1).mp hv
  case refine_4 =>
    simp only [spurge] at he
    cases hb : (eqN id X) with
    | true => rw [hb] at he; cases he
    | false =>
      rw [hb] at he
      simp only [cond_false, V.osl.injEq] at he
      subst he
      have hne : id ≠ X := fun e => by subst e; simp at hb
      obtain ⟨fx, e, sz, α, f, l, i, m, h1, _⟩ := RA.of_view hv
      exact (h id _ hne h1).view hv
  all_goals
    simp only [spurge]
    cases hb : (eqN id X)
    case true => exact .junk _
    simp only [cond_false]
    have hne : id ≠ X := fun e => by subst e; simp at hb
  · obtain ⟨fx, e, sz, α, f, l, h1, _⟩ := RA.of_osl hv
    exact (h id _ hne h1).osl hv
  · obtain ⟨b, cs, _, h1, _⟩ := RA.of_ptr hv
    exact (h id _ hne h1).ptr hv
  · obtain ⟨b, fx, e, sz, n, α, f, l, _, h1, _⟩ := RA.of_eptr hv
    exact (h id _ hne h1).eptr hv

-- Data: nothing of the call's own.
mutual
def isData : V → Bool
  | .osl _ => false
  | .view _ _ _ => false
  | .ptr _ _ => false
  | .eptr _ _ _ => false
  | .fn _ xs ys => isDatal xs && isDatal ys
  | .agg cs => isDatal cs
  | .tup cs => isDatal cs
  | .mp _ => false
  | .opt _ _ _ => false
  | .nb _ => false
  | _ => true
def isDatal : List V → Bool
  | [] => true
  | x :: r => isData x && isDatal r
end
theorem isDatal_iff (l : List V) : isDatal l = true ↔ ∀ x, x ∈ l → isData x = true := by
  induction l with
  | nil => simp [isDatal]
  | cons a r ih => simp [isDatal, ih]
theorem RA.data {w : World} {F : Nat → Prop} {β : Bt} {o : Own} {v : Value} {x : V} (h : RA w F β o v x) (hx : isData x = true) : RD w F v x := by
  induction h with
  | d v x h => exact h
  | osl => simp [isData] at hx
  | osl0 => simp [isData] at hx
  | view => simp [isData] at hx
  | view0 => simp [isData] at hx
  | ptr => simp [isData] at hx
  | mp => simp [isData] at hx
  | eptr => simp [isData] at hx
  | fn f fs cs xs ys hf hc _ _ ih1 ih2 =>
    simp only [isData, Bool.and_eq_true, isDatal_iff] at hx
    exact .fn _ _ _ _ _ hf hc (fun i c y hi hy => ih1 i c y hi hy (hx.1 y (List.mem_of_getElem? hy))) (fun i c y hi hy => ih2 i c y hi hy (hx.2 y (List.mem_of_getElem? hy)))
  | agg cs xs hl hone _ ih =>
    simp only [isData, isDatal_iff] at hx
    exact .agg _ _ hl hone fun i c y hi hy => ih i c y hi hy (hx y (List.mem_of_getElem? hy))
  | tup cs xs hl _ ih =>
    simp only [isData, isDatal_iff] at hx
    exact .tup _ _ hl fun i c y hi hy => ih i c y hi hy (hx y (List.mem_of_getElem? hy))
  | junk v => exact .junk v

end Go.Vg
/- The state behind an operation, and that it is as it is told. -/
namespace Go.Vg
open Go

def oerase : Own → Nat → Own
  | [], _ => []
  | (k, v) :: r, n => bif (eqN k n) then oerase r n else (k, v) :: oerase r n
theorem olook_oerase (o : Own) (n id : Nat) : olook (oerase o n) id = if id = n then none else olook o id := by
  induction o with
  | nil => simp [oerase, olook]
  | cons a r ih =>
    obtain ⟨k, v⟩ := a
    simp only [oerase]
    cases h : (eqN k n) with
    | true =>
      have := eqN_true h
      subst this
      simp only [cond_true, ih, olook]
      by_cases e : id = k
      · simp [e]
      · have : (eqN k id) = false := by
          cases h' : (eqN k id) with
          | false => rfl
          | true => exact absurd (eqN_true h').symm e
        simp [e, this]
    | false =>
      simp only [cond_false, olook, ih]
      cases h' : (eqN k id) with
      | true =>
        have := eqN_true h'
        subst this
        have : k ≠ n := fun e => by subst e; simp at h
        simp [this]
      | false => simp

structure Out : Type 1 where
  v : V
  fz : List Nat
  ups : List (Nat × Bool × Ent)

/-- An own list is data from now on. -/
def sfrz (X : Nat) (rep : V) : Sub := ⟨fun id => bif (eqN id X) then rep else .osl id, .ptr, fun id i off => bif (eqN id X) then .junk else .eptr id i off⟩
/-- What points to it points to cells now. -/
def sbox (X : Nat) (cs : List V) : Sub := ⟨.osl, fun id off => match eqN id X with
  | true => .rptr (cs.drop off)
  | false => .ptr id off, .eptr⟩
def boxE (s : St) (X : Nat) (cs : List V) : St := ⟨subE (sbox X cs) s.e, subO (sbox X cs) (oerase s.o X), s.t⟩

def frz1 (s : St) (id : Nat) : St :=
  match olook s.o id with
  | some (.arr _ _ sz f l) => ⟨subE (sfrz id (.sl sz f l)) s.e, subO (sfrz id (.sl sz f l)) (oerase s.o id), s.t⟩
  | some (.var cs) => (match isDatal cs with
    | true => boxE s id cs
    | false => s)
  | some (.map _ _) => s
  | none => s
/-- What is told of a value then. -/
def fsub (s : St) (id : Nat) (x : V) : V :=
  match olook s.o id with
  | some (.arr _ _ sz f l) => V.sub (sfrz id (.sl sz f l)) x
  | some (.var cs) => (match isDatal cs with
    | true => V.sub (sbox id cs) x
    | false => x)
  | some (.map _ _) => x
  | none => x
def frz : List Nat → St → St
  | [], s => s
  | id :: r, s => frz r (frz1 s id)
def up1 (s : St) : Nat × Bool × Ent → St
  | (id, true, ent) => ⟨subE (spurge id) s.e, (id, Ent.sub (spurge id) ent) :: subO (spurge id) (oerase s.o id), id :: s.t⟩
  | (id, false, ent) => ⟨s.e, (id, ent) :: oerase s.o id, id :: s.t⟩
def idsU : List (Nat × Bool × Ent) → List Nat
  | [] => []
  | (id, _, _) :: r => id :: idsU r
def movedU : List (Nat × Bool × Ent) → List Nat
  | [] => []
  | (id, true, _) :: r => id :: movedU r
  | (_, false, _) :: r => movedU r
def entsOn : List (Nat × Bool × Ent) → Own → Own
  | [], o => o
  | (id, _, e) :: r, o => (id, e) :: entsOn r o
def oeraseL : List Nat → Own → Own
  | [], o => o
  | x :: r, o => oeraseL r (oerase o x)
def catN : List Nat → List Nat → List Nat
  | [], l => l
  | x :: r, l => x :: catN r l
def memN : List Nat → Nat → Bool
  | [], _ => false
  | x :: r, n => (eqN x n) || memN r n
/-- All refs to these are struck. -/
def spurgeL (l : List Nat) : Sub := ⟨fun id => bif memN l id then .junk else .osl id, fun id off => bif memN l id then .junk else .ptr id off, fun id i off => bif memN l id then .junk else .eptr id i off⟩
/-- Several at once. -/
def upMany (us : List (Nat × Bool × Ent)) (s : St) : St := ⟨subE (spurgeL (movedU us)) s.e, entsOn us (subO (spurgeL (movedU us)) (oeraseL (idsU us) s.o)), catN (idsU us) s.t⟩
def ups (us : List (Nat × Bool × Ent)) (s : St) : St :=
  match us with
  | [] => s
  | [u] => up1 s u
  | us => upMany us s
def St.after (s : St) (out : Out) : St := ups out.ups (frz out.fz s)

def killOpt (d : Nat) : V → V
  | .opt t b v => bif (eqN t d) then .junk else .opt t b v
  | x => x
def killE (d : Nat) : Env → Env
  | [] => []
  | (k, x) :: r => (k, killOpt d x) :: killE d r
def putR : Env → Nat → V → Env
  | [], k, v => [(k, v)]
  | (k, v) :: r, n, x => bif (eqN k n) then (n, x) :: r else (k, v) :: putR r n x
def put (e : Env) (d : Nat) (v : V) : Env := putR (killE d e) d v
theorem look_killE (e : Env) (d t : Nat) : look (killE d e) t = killOpt d (look e t) := by
  induction e with
  | nil => simp [killE, look, killOpt]
  | cons a r ih =>
    obtain ⟨k, x⟩ := a
    simp only [killE, look, ih]
    cases (eqN k t) <;> simp
theorem look_putR (e : Env) (d t : Nat) (v : V) : look (putR e d v) t = if t = d then v else look e t := by
  induction e with
  | nil =>
    simp only [putR, look]
    by_cases h : t = d
    · subst h; simp
    · have : (eqN d t) = false := by
        cases h' : (eqN d t) with
        | false => rfl
        | true => exact absurd (eqN_true h').symm h
      simp [this, h]
  | cons a r ih =>
    obtain ⟨k, x⟩ := a
    simp only [putR]
    cases h : (eqN k d) with
    | true =>
      have := eqN_true h
      subst this
      simp only [cond_true, look]
      by_cases h : t = k
      · subst h; simp
      · have : (eqN k t) = false := by
          cases h' : (eqN k t) with
          | false => rfl
          | true => exact absurd (eqN_true h').symm h
        simp [this, h]
    | false =>
      simp only [cond_false, look, ih]
      cases h' : (eqN k t) with
      | true =>
        have := eqN_true h'
        subst this
        have : k ≠ d := fun e => by subst e; simp at h
        simp [this]
      | false => simp
theorem look_put (e : Env) (d t : Nat) (v : V) : look (put e d v) t = if t = d then v else killOpt d (look e t) := by
  rw [put, look_putR, look_killE]

/-- Slot d, or none, holds a value. -/
def putO (N : Nat) (s : St) (d : Option Tmp) (v : V) : St :=
  match d with
  | some d => bif (ltN d N) then ⟨put s.e d v, s.o, s.t⟩ else s
  | none => s

/-- Input things that stay where they were. -/
def pinned : Ent → Bool
  | .var _ => true
  | .arr fx _ _ _ _ => fx
  | .map _ _ => true

/-- Where a function began. -/
structure Mark : Type where
  w : World
  F : Nat → Prop
  β : Bt
structure From : Type 1 where
  w : World
  F : Nat → Prop
  β : Bt
  o : Own
  m : Mark
  /-- What lies where, and nobody turns. -/
  pr : Nat → Obj → Prop
def From.S (z : From) (b : Nat) : Prop := ∃ id ent, olook z.o id = some ent ∧ z.β id = some b

/-- The whole relation. -/
structure Rl (P : Program) (c : Ctx) (z : From) (F : Nat → Prop) (β : Bt) (s : St) (tm : Array Value) (w : World) : Prop extends Rel P c z.w z.F z.S F β s tm w where
  low : ∀ id ent, olook z.o id = some ent → 10000 ≤ id
  pins : ∀ id ent, olook z.o id = some ent → pinned ent = true → memN c.pin id = true
  zlt : ∀ b, z.F b → b < z.w.heap.size
  nw : ∀ id ent b, olook s.o id = some ent → β id = some b → z.w.heap.size ≤ b ∨ ∃ ent', olook z.o id = some ent' ∧ z.β id = some b
  hold : ∀ id ent0 ent, olook z.o id = some ent0 → olook s.o id = some ent → pinned ent0 = true → Same z.w z.β z.o w β s.o id id
  mk0 : z.m.w.heap.size ≤ w.heap.size
  mk1 : ∀ b, b < z.m.w.heap.size → ¬ z.m.F b → w.heap[b]? = z.m.w.heap[b]? ∧ ¬ F b
  mk2 : ∀ id b, z.m.β id = some b → b < z.m.w.heap.size → memN s.t id = false → w.heap[b]? = z.m.w.heap[b]? ∧ (¬ F b ∨ (β id = some b ∧ ∃ ent, olook s.o id = some ent))
  prot : ∀ k o, z.pr k o → F k ∧ w.heap[k]? = some o ∧ ∀ id, β id ≠ some k

section
variable {P : Program} {c : Ctx} {z : From} {F : Nat → Prop} {β : Bt} {s : St} {tm : Array Value} {w : World}

theorem RE.killOpt {o : Own} {val : Value} {x : V} {d : Nat} {u : Value} (h : RE w F β o tm val x) : RE w F β o (tm.setIfInBounds d u) val (killOpt d x) := by
  cases x with
  | opt t b v =>
    simp only [Vg.killOpt]
    cases hb : (eqN t d) with
    | true => exact .junk _
    | false =>
      have hne : d ≠ t := fun e => by subst e; simp at hb
      have : (tm.setIfInBounds d u).getD t undef = tm.getD t undef := by simp [Array.getElem?_setIfInBounds_ne hne]
      simp only [cond_false, RE, this]
      exact h
  | _ => exact h

/-- What a function made itself lies anew. -/
theorem Rl.nwl (hr : Rl P c z F β s tm w) (id : Nat) (ent : Ent) (b : Nat) (h : id < 10000) (h1 : olook s.o id = some ent) (h2 : β id = some b) : z.w.heap.size ≤ b := by
  rcases hr.nw id ent b h1 h2 with q | ⟨e, q, _⟩
  · exact q
  · have := hr.low id e q; omega
/-- A slot is set. -/
theorem Rl.put (hr : Rl P c z F β s tm w) (d : Option Tmp) {val : Value} {x : V} (hx : RA w F β s.o val x) (a : Act) (ha : a.tmps = tm) : Rl P c z F β (putO c.N s d x) (a.put d val).tmps w := by
  subst ha
  cases d with
  | none => exact hr
  | some d =>
    simp only [putO, Act.put]
    cases hd : (ltN d c.N) with
    | false =>
      have hN : ¬ d < a.tmps.size := by rw [hr.n]; intro h; rw [show (ltN d c.N) = true from ltN_iff.2 h] at hd; cases hd
      have : a.tmps.setIfInBounds d val = a.tmps := by rw [Array.setIfInBounds, dif_neg hN]
      simp only [cond_false, this]
      exact hr
    | true =>
      have hN : d < a.tmps.size := by rw [hr.n]; simpa using hd
      simp only [cond_true]
      refine { hr with n := by simp [hr.n], env := fun t => ?_, own := hr.own, fresh := hr.fresh, hold := hr.hold, nw := hr.nw }
      simp only [look_put]
      by_cases e : t = d
      · subst e
        have : (a.tmps.setIfInBounds t val).getD t undef = val := by simp [hN]
        simp only [if_true, this]
        cases x <;> first | exact hx | (cases hx with | d _ _ h => cases h with | nilsl _ _ h => simp [V.elems] at h | slice _ _ _ h => simp [V.elems] at h)
      · have : (a.tmps.setIfInBounds d val).getD t undef = a.tmps.getD t undef := by simp [Array.getElem?_setIfInBounds_ne (Ne.symm e)]
        simp only [e, if_false, this]
        exact (hr.env t).killOpt

theorem hd_of {w w' : World} {F F' : Nat → Prop} (hk : ∀ b, b < w.heap.size → ¬ F b → w'.heap[b]? = w.heap[b]?) (hF : ∀ b, b < w.heap.size → F' b → F b) (hs : w.heap.size ≤ w'.heap.size) : ∀ v x, RD w F v x → RD w' F' v x :=
  fun _ _ h => h.carry fun b hb hn => ⟨hk b hb hn, fun q => hn (hF b hb q), Nat.lt_of_lt_of_le hb hs⟩

theorem RE.sub {w w' : World} {F F' : Nat → Prop} {β β' : Bt} {o o' : Own} {σ : Sub} (g : ∀ v x, RA w F β o v x → RA w' F' β' o' v (V.sub σ x)) {val : Value} {x : V} (h : RE w F β o tm val x)
    (h1 : ∀ id t b v, σ.osl id ≠ .opt t b v) (h2 : ∀ id b, σ.osl id ≠ .nb b) (h3 : ∀ id off t b v, σ.ptr id off ≠ .opt t b v) (h4 : ∀ id off b, σ.ptr id off ≠ .nb b) (h5 : ∀ id i off t b v, σ.eptr id i off ≠ .opt t b v) (h6 : ∀ id i off b, σ.eptr id i off ≠ .nb b) :
    RE w' F' β' o' tm val (V.sub σ x) := by
  cases x with
  | opt t b v =>
    simp only [V.sub, RE]
    rcases h with ⟨e1, e2⟩ | h
    · exact .inl ⟨e1, g _ _ e2⟩
    · exact .inr h
  | nb b => simp only [V.sub]; exact h
  | osl id =>
    have := g _ _ h
    simp only [V.sub] at this ⊢
    cases hx : σ.osl id <;> first | (rw [hx] at this; exact this) | exact absurd hx (h1 _ _ _ _) | exact absurd hx (h2 _ _)
  | view id lo n =>
    have := g _ _ h
    simp only [V.sub] at this ⊢
    split <;> rename_i hx <;> simp only [hx] at this <;> exact this
  | ptr id off =>
    have := g _ _ h
    simp only [V.sub] at this ⊢
    cases hx : σ.ptr id off <;> first | (rw [hx] at this; exact this) | exact absurd hx (h3 _ _ _ _ _) | exact absurd hx (h4 _ _ _)
  | mp id =>
    have := g _ _ h
    simp only [V.sub] at this ⊢
    split <;> rename_i hx <;> simp only [hx] at this <;> exact this
  | eptr id i off =>
    have := g _ _ h
    simp only [V.sub] at this ⊢
    cases hx : σ.eptr id i off <;> first | (rw [hx] at this; exact this) | exact absurd hx (h5 _ _ _ _ _ _) | exact absurd hx (h6 _ _ _ _)
  | _ => exact g _ _ h

theorem EntOk.sub {w w' : World} {F F' : Nat → Prop} {β β' : Bt} {o o' : Own} {σ : Sub} {id : Nat} {ent : Ent} (hd : ∀ v x, RD w F v x → RD w' F' v x) (g : ∀ v x, RA w F β o v x → RA w' F' β' o' v (V.sub σ x))
    (hb : β' id = β id) (hh : ∀ b, β id = some b → w'.heap[b]? = w.heap[b]? ∧ F' b) (h : EntOk w F β o id ent) : EntOk w' F' β' o' id (Ent.sub σ ent) := by
  cases ent with
  | var cs =>
    obtain ⟨b, c, t, h1, h2, h3, h4, h5, h6⟩ := h
    refine ⟨b, c, t, hb.trans h1, (hh b h1).2, (hh b h1).1.trans h3, by simpa [V.subl_eq] using h4, h5, fun i v x hi hx => ?_⟩
    rw [V.subl_eq, List.getElem?_map, Option.map_eq_some_iff] at hx
    obtain ⟨y, hy, rfl⟩ := hx
    exact g _ _ (h6 i v y hi hy)
  | arr fx e sz f l =>
    rcases h with ⟨h1, h2⟩ | ⟨b, cur, h1, h2, h3, h4, h5, h6⟩
    · exact .inl ⟨hb.trans h1, h2⟩
    · exact .inr ⟨b, cur, hb.trans h1, (hh b h1).2, (hh b h1).1.trans h3, h4, h5, fun i p hp => ⟨(h6 i p hp).1, fun j y hy => let ⟨cv, k1, k2⟩ := (h6 i p hp).2 j y hy; ⟨cv, k1, hd _ _ k2⟩⟩⟩
  | map f l =>
    obtain ⟨b, es, clock, h1, h2, h3, h4, h4', h5⟩ := h
    exact ⟨b, es, clock, hb.trans h1, (hh b h1).2, (hh b h1).1.trans h3, h4, h4', fun i p hp => let ⟨en, k1, k2, k3⟩ := h5 i p hp; ⟨en, k1, k2, hd _ _ k3⟩⟩

theorem EntOk.blk {id : Nat} {ent : Ent} {o : Own} (h : EntOk w F β o id ent) {b : Nat} (hb : β id = some b) : F b ∧ ∃ ob, w.heap[b]? = some ob := by
  cases ent with
  | var cs =>
    obtain ⟨b', c, t, h1, h2, h3, _⟩ := h
    rw [h1] at hb; cases hb
    exact ⟨h2, _, h3⟩
  | arr fx e sz f l =>
    rcases h with ⟨h1, _⟩ | ⟨b', cur, h1, h2, h3, _⟩
    · rw [h1] at hb; cases hb
    · rw [h1] at hb; cases hb
      exact ⟨h2, _, h3⟩
  | map f l =>
    obtain ⟨b', es, clock, h1, h2, h3, _⟩ := h
    rw [h1] at hb; cases hb
    exact ⟨h2, _, h3⟩

theorem blk_lt {b : Nat} {o : Obj} (h : w.heap[b]? = some o) : b < w.heap.size := (Array.getElem?_eq_some_iff.1 h).1

theorem spurge_safe (X : Nat) : (∀ id t b v, (spurge X).osl id ≠ .opt t b v) ∧ (∀ id b, (spurge X).osl id ≠ .nb b) ∧ (∀ id off t b v, (spurge X).ptr id off ≠ .opt t b v) ∧ (∀ id off b, (spurge X).ptr id off ≠ .nb b) ∧
    (∀ id i off t b v, (spurge X).eptr id i off ≠ .opt t b v) ∧ (∀ id i off b, (spurge X).eptr id i off ≠ .nb b) := by
  refine ⟨fun id t b v => ?_, fun id b => ?_, fun id off t b v => ?_, fun id off b => ?_, fun id i off t b v => ?_, fun id i off b => ?_⟩ <;> simp only [spurge] <;> cases (eqN id X) <;> simp

/-- A new own thing, or one that was moved: all that pointed to it is struck. -/
theorem Rl.anew (hr : Rl P c z F β s tm w) {w' : World} {F' : Nat → Prop} {X : Nat} (hX : X < 10000 ∨ (∀ ent, olook z.o X = some ent → pinned ent = false)) {nb : Option Nat} {ent : Ent}
    (hk : ∀ b, b < w.heap.size → β X ≠ some b → w'.heap[b]? = w.heap[b]?) (hos : w'.os = w.os) (htp : w'.tape = w.tape) (hou : OutLe w w') (hsz : w.heap.size ≤ w'.heap.size)
    (hF1 : ∀ b, F b → F' b) (hF2 : ∀ b, b < w.heap.size → F' b → F b) (hF3 : ∀ b, F' b → b < w'.heap.size) (hfr : ∀ b, nb = some b → w.heap.size ≤ b ∨ β X = some b)
    (hent : EntOk w' F' (fun id => if id = X then nb else β id) (up1 s (X, true, ent)).o X (Ent.sub (spurge X) ent)) :
    Rl P c z F' (fun id => if id = X then nb else β id) (up1 s (X, true, ent)) tm w' := by
  have hdomX : ∀ b, β X = some b → ∃ e0, olook s.o X = some e0 := fun b hb => by
    cases h : olook s.o X with
    | some e => exact ⟨e, rfl⟩
    | none => rw [hr.dom X h] at hb; cases hb
  have hFX : ∀ b, β X = some b → F b := fun b hb => let ⟨e0, he⟩ := hdomX b hb; ((hr.own.ent X e0 he).blk hb).1
  have hk' : ∀ b, b < w.heap.size → ¬ F b → w'.heap[b]? = w.heap[b]? := fun b hb hn => hk b hb (fun e => hn (hFX b e))
  have hd := hd_of hk' hF2 hsz
  have hol : ∀ id, id ≠ X → olook (up1 s (X, true, ent)).o id = (olook s.o id).map (Ent.sub (spurge X)) := fun id hne => by
    have : (eqN X id) = false := by
      cases h' : (eqN X id) with
      | false => rfl
      | true => exact absurd (eqN_true h').symm hne
    simp [up1, olook, this, olook_subO, olook_oerase, hne]
  have holX : olook (up1 s (X, true, ent)).o X = some (Ent.sub (spurge X) ent) := by simp [up1, olook]
  have hblk : ∀ id e0 b, id ≠ X → olook s.o id = some e0 → β id = some b → w'.heap[b]? = w.heap[b]? ∧ F' b := fun id e0 b hne he hb => by
    obtain ⟨h1, ob, h2⟩ := (hr.own.ent id e0 he).blk hb
    refine ⟨hk b (blk_lt h2) (fun e => ?_), hF1 b h1⟩
    obtain ⟨e1, h⟩ := hdomX b e
    exact hne (hr.own.inj id X b e0 e1 he h hb e)
  have hsame : ∀ id ent0, id ≠ X → olook s.o id = some ent0 → Same w β s.o w' (fun id => if id = X then nb else β id) (up1 s (X, true, ent)).o id id := fun id ent0 hne he => by
    refine ⟨by simp [hne], fun cs h => ?_, fun fx e sz α f l h => ?_, fun α f l h => ⟨α, f, l, by rw [hol id hne, h]; rfl⟩⟩
    · exact ⟨V.subl (spurge X) cs, by rw [hol id hne, h]; rfl⟩
    · refine ⟨fx, α, f, l, by rw [hol id hne, h]; rfl, rfl, fun b cur hb hc => ⟨cur, ?_, rfl⟩⟩
      rw [(hblk id _ b hne h hb).1]; exact hc
  have g : ∀ v x, RA w F β s.o v x → RA w' F' (fun id => if id = X then nb else β id) (up1 s (X, true, ent)).o v (V.sub (spurge X) x) := fun v x hx => RA.purge hd (fun id e0 hne he => hsame id e0 hne he) hx
  obtain ⟨q1, q2, q3, q4, q5, q6⟩ := spurge_safe X
  have hzS : ∀ b, z.S b → z.F b → True := fun _ _ _ => trivial
  refine { n := hr.n, env := fun t => ?_, own := ⟨fun id e0 he => ?_, fun id id' b e0 e1 h0 h1 hb hb' => ?_⟩, F0F := fun b h => hF1 b (hr.F0F b h), Fnew := fun b hb h => hr.Fnew b hb (hF2 b (Nat.lt_of_lt_of_le hb hr.keep.size) h), Flt := hF3,
           dom := fun id h => ?_, fresh := fun id e0 b he hb => ?_, keep := ?_, glob := ⟨fun gg cs hg => hd _ _ (hr.glob.ok gg cs hg)⟩, tab := hr.tab, eqs := hr.eqs, low := hr.low, pins := hr.pins, zlt := hr.zlt, nw := fun id e0 b he hb => ?_, hold := fun id ent0 e1 h0 h1 hp => ?_, mk0 := Nat.le_trans hr.mk0 hsz, mk1 := fun b hb hn => ?_, mk2 := fun id b hb hlt hm => ?_, prot := fun k o h => ?_ }
  rotate_right
  · obtain ⟨h1, h2, h3⟩ := hr.prot k o h
    refine ⟨hF1 k h1, (hk k (blk_lt h2) (h3 X)).trans h2, fun id hb => ?_⟩
    by_cases e : id = X
    · rw [if_pos e] at hb
      rcases hfr k hb with h | h
      · have := blk_lt h2; omega
      · exact h3 X h
    · rw [if_neg e] at hb; exact h3 id hb
  · show RE _ _ _ _ _ _ (look (subE (spurge X) s.e) t)
    rw [look_subE]
    exact (hr.env t).sub g q1 q2 q3 q4 q5 q6
  · by_cases hne : id = X
    · subst hne
      rw [holX] at he; cases he
      exact hent
    · rw [hol id hne] at he
      simp only [Option.map_eq_some_iff] at he
      obtain ⟨e1, h1, rfl⟩ := he
      exact EntOk.sub hd g (by simp [hne]) (fun b hb => hblk id e1 b hne h1 hb) (hr.own.ent id e1 h1)
  · have lt : ∀ id e0 b, id ≠ X → olook (up1 s (X, true, ent)).o id = some e0 → β id = some b → b < w.heap.size ∧ β X ≠ some b := fun id e0 b hne h hb => by
      rw [hol id hne] at h
      simp only [Option.map_eq_some_iff] at h
      obtain ⟨e1, h1, rfl⟩ := h
      obtain ⟨_, ob, h2⟩ := (hr.own.ent id e1 h1).blk hb
      refine ⟨blk_lt h2, fun e => ?_⟩
      obtain ⟨e2, h3⟩ := hdomX b e
      exact hne (hr.own.inj id X b e1 e2 h1 h3 hb e)
    by_cases hne : id = X
    · by_cases hne' : id' = X
      · rw [hne, hne']
      · simp only [hne, if_true] at hb
        simp only [hne', if_false] at hb'
        obtain ⟨l1, l2⟩ := lt id' e1 b hne' h1 hb'
        rcases hfr b hb with h | h
        · omega
        · exact absurd h l2
    · simp only [hne, if_false] at hb
      obtain ⟨l1, l2⟩ := lt id e0 b hne h0 hb
      by_cases hne' : id' = X
      · simp only [hne', if_true] at hb'
        rcases hfr b hb' with h | h
        · omega
        · exact absurd h l2
      · simp only [hne', if_false] at hb'
        rw [hol id hne] at h0
        rw [hol id' hne'] at h1
        simp only [Option.map_eq_some_iff] at h0 h1
        obtain ⟨e2, h2, _⟩ := h0
        obtain ⟨e3, h3, _⟩ := h1
        exact hr.own.inj id id' b e2 e3 h2 h3 hb hb'
  · by_cases hne : id = X
    · subst hne; rw [holX] at h; cases h
    · rw [hol id hne] at h
      simp only [Option.map_eq_none_iff] at h
      simp only [hne, if_false]
      exact hr.dom id h
  · by_cases hne : id = X
    · simp only [hne, if_true] at hb
      rcases hfr b hb with h | h
      · exact .inl (Nat.le_trans hr.keep.size h)
      · obtain ⟨e1, h1⟩ := hdomX b h
        exact hr.fresh X e1 b h1 h
    · simp only [hne, if_false] at hb
      rw [hol id hne] at he
      simp only [Option.map_eq_some_iff] at he
      obtain ⟨e1, h1, rfl⟩ := he
      exact hr.fresh id e1 b h1 hb
  · refine ⟨hos.trans hr.keep.os, htp.trans hr.keep.tape, hou.trans hr.keep.output, Nat.le_trans hr.keep.size hsz, fun b hb hn => ?_⟩
    rw [hk b (Nat.lt_of_lt_of_le hb hr.keep.size) (fun e => ?_)]
    · exact hr.keep.block b hb hn
    · obtain ⟨e1, h1⟩ := hdomX b e
      rcases hr.fresh X e1 b h1 e with h | h
      · omega
      · exact hn h
  · by_cases hne : id = X
    · simp only [hne, if_true] at hb
      rcases hfr b hb with h | h
      · exact .inl (Nat.le_trans hr.keep.size h)
      · obtain ⟨e1, h1⟩ := hdomX b h
        rw [hne]; exact hr.nw X e1 b h1 h
    · simp only [hne, if_false] at hb
      rw [hol id hne] at he
      simp only [Option.map_eq_some_iff] at he
      obtain ⟨e1, h1, rfl⟩ := he
      exact hr.nw id e1 b h1 hb
  · have hne : id ≠ X := fun e => by
      subst e
      rcases hX with h | h
      · have := hr.low id ent0 h0; omega
      · rw [h ent0 h0] at hp; cases hp
    rw [hol id hne] at h1
    simp only [Option.map_eq_some_iff] at h1
    obtain ⟨e2, h2, _⟩ := h1
    have k1 := hr.hold id ent0 e2 h0 h2 hp
    have k2 := hsame id e2 hne h2
    refine ⟨k2.bt.trans k1.bt, fun cs h => ?_, fun fx e sz α f l h => ?_, fun α f l h => let ⟨_, _, _, h'⟩ := k1.map α f l h; k2.map _ _ _ h'⟩
    · obtain ⟨cs', h'⟩ := k1.var cs h
      exact k2.var cs' h'
    · obtain ⟨fx1, α1, f1, l1, m1, m2, m3⟩ := k1.arr fx e sz α f l h
      obtain ⟨fx2, α2, f2, l2, m4, m5, m6⟩ := k2.arr _ _ _ _ _ _ m1
      refine ⟨fx2, α2, f2, l2, m4, m5.trans m2, fun b cur hb hc => ?_⟩
      obtain ⟨cur1, n1, n2⟩ := m3 b cur hb hc
      obtain ⟨cur2, n3, n4⟩ := m6 b cur1 (k1.bt.trans hb) n1
      exact ⟨cur2, n3, n4.trans n2⟩
  · obtain ⟨h1, h2⟩ := hr.mk1 b hb hn
    have hlt := Nat.lt_of_lt_of_le hb hr.mk0
    exact ⟨(hk b hlt fun e => h2 (hFX b e)).trans h1, fun h => h2 (hF2 b hlt h)⟩
  · simp only [up1, memN, Bool.or_eq_false_iff] at hm
    obtain ⟨h1, h2⟩ := hr.mk2 id b hb hlt hm.2
    have hlt' := Nat.lt_of_lt_of_le hlt hr.mk0
    have hne : id ≠ X := fun e => by subst e; simp at hm
    rcases h2 with h2 | ⟨h2, ent1, h3⟩
    · exact ⟨(hk b hlt' fun e => h2 (hFX b e)).trans h1, .inl fun h => h2 (hF2 b hlt' h)⟩
    · refine ⟨(hblk id ent1 b hne h3 h2).1.trans h1, .inr ⟨by simp [hne, h2], _, by rw [hol id hne, h3]; rfl⟩⟩

end
end Go.Vg
/- Further turns of the state. -/
namespace Go.Vg
open Go

section
variable {P : Program} {c : Ctx} {z : From} {F : Nat → Prop} {β : Bt} {s : St} {tm : Array Value} {w : World}

theorem Same.trans {w1 w2 w3 : World} {β1 β2 β3 : Bt} {o1 o2 o3 : Own} {i1 i2 i3 : Nat} (h : Same w1 β1 o1 w2 β2 o2 i1 i2) (k : Same w2 β2 o2 w3 β3 o3 i2 i3) : Same w1 β1 o1 w3 β3 o3 i1 i3 := by
  refine ⟨k.bt.trans h.bt, fun cs hc => ?_, fun fx e sz α f l hc => ?_, fun α f l hc => let ⟨_, _, _, h'⟩ := h.map α f l hc; k.map _ _ _ h'⟩
  · obtain ⟨cs', h'⟩ := h.var cs hc
    exact k.var cs' h'
  · obtain ⟨fx1, α1, f1, l1, m1, m2, m3⟩ := h.arr fx e sz α f l hc
    obtain ⟨fx2, α2, f2, l2, m4, m5, m6⟩ := k.arr _ _ _ _ _ _ m1
    refine ⟨fx2, α2, f2, l2, m4, m5.trans m2, fun b cur hb hc => ?_⟩
    obtain ⟨cur1, n1, n2⟩ := m3 b cur hb hc
    obtain ⟨cur2, n3, n4⟩ := m6 b cur1 (h.bt.trans hb) n1
    exact ⟨cur2, n3, n4.trans n2⟩

theorem beq_false {a b : Nat} (h : b ≠ a) : (eqN a b) = false := by
  cases h' : (eqN a b) with
  | false => rfl
  | true => exact absurd (eqN_true h').symm h

/-- Nothing own is written; there may be new blocks. -/
theorem Rl.world (hr : Rl P c z F β s tm w) {w' : World} {F' : Nat → Prop} (hk : ∀ b, b < w.heap.size → w'.heap[b]? = w.heap[b]?) (hos : w'.os = w.os) (htp : w'.tape = w.tape) (hou : OutLe w w') (hsz : w.heap.size ≤ w'.heap.size)
    (hF1 : ∀ b, F b → F' b) (hF2 : ∀ b, b < w.heap.size → F' b → F b) (hF3 : ∀ b, F' b → b < w'.heap.size) :
    Rl P c z F' β s tm w' ∧ (∀ v x, RD w F v x → RD w' F' v x) ∧ ∀ v x, RA w F β s.o v x → RA w' F' β s.o v x := by
  have hd : ∀ v x, RD w F v x → RD w' F' v x := hd_of (fun b hb _ => hk b hb) hF2 hsz
  have hblk : ∀ id e0 b, olook s.o id = some e0 → β id = some b → w'.heap[b]? = w.heap[b]? ∧ F' b := fun id e0 b he hb => by
    obtain ⟨h1, ob, h2⟩ := (hr.own.ent id e0 he).blk hb
    exact ⟨hk b (blk_lt h2), hF1 b h1⟩
  have hsame : ∀ id ent0, olook s.o id = some ent0 → Same w β s.o w' β s.o id id := fun id ent0 he => by
    refine ⟨rfl, fun cs h => ⟨cs, h⟩, fun fx e sz α f l h => ⟨fx, α, f, l, h, rfl, fun b cur hb hc => ⟨cur, ?_, rfl⟩⟩, fun α f l h => ⟨α, f, l, h⟩⟩
    rw [(hblk id _ b h hb).1]; exact hc
  have g : ∀ v x, RA w F β s.o v x → RA w' F' β s.o v x := fun v x hx => RA.stay hd hsame hx
  have g' : ∀ v x, RA w F β s.o v x → RA w' F' β s.o v (V.sub sid x) := fun v x hx => by rw [V.sub_id]; exact g v x hx
  refine ⟨{ n := hr.n, env := fun t => ?_, own := ⟨fun id e0 he => ?_, hr.own.inj⟩, F0F := fun b h => hF1 b (hr.F0F b h), Fnew := fun b hb h => hr.Fnew b hb (hF2 b (Nat.lt_of_lt_of_le hb hr.keep.size) h), Flt := hF3, dom := hr.dom,
            fresh := hr.fresh, keep := ?_, glob := ⟨fun gg cs hg => hd _ _ (hr.glob.ok gg cs hg)⟩, tab := hr.tab, eqs := hr.eqs, low := hr.low, pins := hr.pins, zlt := hr.zlt, nw := hr.nw, hold := fun id ent0 e1 h0 h1 hp => (hr.hold id ent0 e1 h0 h1 hp).trans (hsame id e1 h1), mk0 := Nat.le_trans hr.mk0 hsz,
            mk1 := fun b hb hn => let ⟨h1, h2⟩ := hr.mk1 b hb hn; have hlt := Nat.lt_of_lt_of_le hb hr.mk0; ⟨(hk b hlt).trans h1, fun h => h2 (hF2 b hlt h)⟩,
            mk2 := fun id b hb hlt hm => let ⟨h1, h2⟩ := hr.mk2 id b hb hlt hm; have hlt' := Nat.lt_of_lt_of_le hlt hr.mk0; ⟨(hk b hlt').trans h1, h2.imp (fun h2 h => h2 (hF2 b hlt' h)) (fun h => h)⟩,
            prot := fun k o h => let ⟨h1, h2, h3⟩ := hr.prot k o h; ⟨hF1 k h1, (hk k (blk_lt h2)).trans h2, h3⟩ }, hd, g⟩
  · have := (hr.env t).sub (σ := sid) g' (by simp [sid]) (by simp [sid]) (by simp [sid]) (by simp [sid]) (by simp [sid]) (by simp [sid])
    rwa [V.sub_id] at this
  · have := EntOk.sub (σ := sid) (o' := s.o) hd g' rfl (fun b hb => hblk id e0 b he hb) (hr.own.ent id e0 he)
    have e : Ent.sub sid e0 = e0 := by cases e0 <;> simp [Ent.sub, V.subl_id]
    rwa [e] at this
  · exact hr.keep.trans (S' := fun _ => False) ⟨hos, htp, hou, hsz, fun b hb _ => hk b hb⟩ (fun _ _ h => h.elim)

/-- One own thing is written in place. -/
theorem Rl.write (hr : Rl P c z F β s tm w) {w' : World} {X b : Nat} {e0 ent : Ent} (he : olook s.o X = some e0) (hb : β X = some b)
    (hk : ∀ b', b' < w.heap.size → b' ≠ b → w'.heap[b']? = w.heap[b']?) (hos : w'.os = w.os) (htp : w'.tape = w.tape) (hou : OutLe w w') (hsz : w'.heap.size = w.heap.size)
    (hsh : (∃ cs cs', e0 = .var cs ∧ ent = .var cs') ∨ (∃ fx e sz α α', ∃ (f : α → V) (l : List α) (f' : α' → V) (l' : List α'), e0 = .arr fx e sz f l ∧ ent = .arr fx e sz f' l' ∧ l'.length = l.length ∧
      ∀ cur, w.heap[b]? = some (.cells cur e (0, 0)) → ∃ cur', w'.heap[b]? = some (.cells cur' e (0, 0)) ∧ cur'.size = cur.size) ∨ ∃ α α', ∃ (f : α → V) (l : List (Int × α)) (f' : α' → V) (l' : List (Int × α')), e0 = .map f l ∧ ent = .map f' l')
    (hent : (∀ v x, RA w F β s.o v x → RA w' F β (up1 s (X, false, ent)).o v x) → (∀ v x, RD w F v x → RD w' F v x) → EntOk w' F β (up1 s (X, false, ent)).o X ent) :
    Rl P c z F β (up1 s (X, false, ent)) tm w' := by
  have hFb : F b := ((hr.own.ent X e0 he).blk hb).1
  have hd : ∀ v x, RD w F v x → RD w' F v x := hd_of (fun b' hb' hn => hk b' hb' (fun e => hn (e ▸ hFb))) (fun _ _ h => h) (by omega)
  have hol : ∀ id, olook (up1 s (X, false, ent)).o id = if id = X then some ent else olook s.o id := fun id => by
    by_cases e : id = X
    · subst e; simp [up1, olook]
    · simp [up1, olook, beq_false e, olook_oerase, e]
  have hblk : ∀ id e1 b', id ≠ X → olook s.o id = some e1 → β id = some b' → w'.heap[b']? = w.heap[b']? ∧ F b' := fun id e1 b' hne h1 hb' => by
    obtain ⟨h2, ob, h3⟩ := (hr.own.ent id e1 h1).blk hb'
    exact ⟨hk b' (blk_lt h3) (fun e => hne (hr.own.inj id X b' e1 e0 h1 he hb' (e ▸ hb))), h2⟩
  have hsame : ∀ id e1, olook s.o id = some e1 → Same w β s.o w' β (up1 s (X, false, ent)).o id id := fun id e1 h1 => by
    by_cases e : id = X
    · subst e
      rw [he] at h1; cases h1
      refine ⟨rfl, fun cs h => ?_, fun fx ee sz α f l h => ?_, fun α f l h => ?_⟩
      · rcases hsh with ⟨cs1, cs', g1, g2⟩ | ⟨fx, ee, sz, α, α', f, l, f', l', g1, g2, _⟩ | ⟨α, α', f, l, f', l', g1, g2⟩
        · exact ⟨cs', by rw [hol, if_pos rfl, g2]⟩
        · rw [he, g1] at h; cases h
        · rw [he, g1] at h; cases h
      rotate_left
      · rcases hsh with ⟨cs1, cs', g1, g2⟩ | ⟨fx, ee, sz, α, α', f, l, f', l', g1, g2, _⟩ | ⟨α, α', f, l, f', l', g1, g2⟩
        · rw [he, g1] at h; cases h
        · rw [he, g1] at h; cases h
        · exact ⟨α', f', l', by rw [hol, if_pos rfl, g2]⟩
      · rcases hsh with ⟨cs1, cs', g1, g2⟩ | ⟨fx1, e1, sz1, α1, α', f1, l1, f', l', g1, g2, g3, g4⟩ | ⟨α, α', f, l, f', l', g1, g2⟩
        rotate_right
        · rw [he, g1] at h; cases h
        · rw [he, g1] at h; cases h
        · rw [he, g1] at h
          simp only [Option.some.injEq, Ent.arr.injEq] at h
          obtain ⟨rfl, rfl, rfl, rfl, _, hl⟩ := h
          have hl := eq_of_heq hl
          subst hl
          refine ⟨fx1, α', f', l', by rw [hol, if_pos rfl, g2], g3, fun b' cur hb' hc => ?_⟩
          rw [hb] at hb'; cases hb'
          exact g4 cur hc
    · refine ⟨rfl, fun cs h => ⟨cs, by rw [hol, if_neg e]; exact h⟩, fun fx ee sz α f l h => ⟨fx, α, f, l, by rw [hol, if_neg e]; exact h, rfl, fun b' cur hb' hc => ⟨cur, ?_, rfl⟩⟩, fun α f l h => ⟨α, f, l, by rw [hol, if_neg e]; exact h⟩⟩
      rw [(hblk id _ b' e h hb').1]; exact hc
  have g : ∀ v x, RA w F β s.o v x → RA w' F β (up1 s (X, false, ent)).o v x := fun v x hx => RA.stay hd hsame hx
  have g' : ∀ v x, RA w F β s.o v x → RA w' F β (up1 s (X, false, ent)).o v (V.sub sid x) := fun v x hx => by rw [V.sub_id]; exact g v x hx
  have hlt : b < w.heap.size := let ⟨_, _, h⟩ := (hr.own.ent X e0 he).blk hb; blk_lt h
  refine { n := hr.n, env := fun t => ?_, own := ⟨fun id e1 h1 => ?_, fun id id' b' e1 e2 h1 h2 hb1 hb2 => ?_⟩, F0F := hr.F0F, Fnew := hr.Fnew, Flt := fun b' h => by rw [hsz]; exact hr.Flt b' h,
           dom := fun id h => ?_, fresh := fun id e1 b' h1 hb1 => ?_, keep := ?_, glob := ⟨fun gg cs hg => hd _ _ (hr.glob.ok gg cs hg)⟩, tab := hr.tab, eqs := hr.eqs, low := hr.low, pins := hr.pins, zlt := hr.zlt, nw := fun id e1 b' h1 hb1 => ?_, hold := fun id ent0 e1 h0 h1 hp => ?_, mk0 := by rw [hsz]; exact hr.mk0, mk1 := fun b' hb' hn => ?_, mk2 := fun id b' hb' hlt hm => ?_,
           prot := fun k o h => let ⟨h1, h2, h3⟩ := hr.prot k o h; ⟨h1, (hk k (blk_lt h2) (fun e => h3 X (by rw [e]; exact hb))).trans h2, h3⟩ }
  · have := (hr.env t).sub (σ := sid) g' (by simp [sid]) (by simp [sid]) (by simp [sid]) (by simp [sid]) (by simp [sid]) (by simp [sid])
    rwa [V.sub_id] at this
  · rw [hol] at h1
    by_cases e : id = X
    · rw [if_pos e] at h1
      cases h1; subst e
      exact hent g hd
    · rw [if_neg e] at h1
      have := EntOk.sub (σ := sid) (o' := (up1 s (X, false, ent)).o) hd g' rfl (fun b' hb' => hblk id e1 b' e h1 hb') (hr.own.ent id e1 h1)
      have e : Ent.sub sid e1 = e1 := by cases e1 <;> simp [Ent.sub, V.subl_id]
      rwa [e] at this
  · have old : ∀ id e1, olook (up1 s (X, false, ent)).o id = some e1 → ∃ e2, olook s.o id = some e2 := fun id e1 h => by
      rw [hol] at h
      by_cases e : id = X
      · exact ⟨e0, e ▸ he⟩
      · rw [if_neg e] at h; exact ⟨e1, h⟩
    obtain ⟨e3, h3⟩ := old id e1 h1
    obtain ⟨e4, h4⟩ := old id' e2 h2
    exact hr.own.inj id id' b' e3 e4 h3 h4 hb1 hb2
  · rw [hol] at h
    by_cases e : id = X
    · rw [if_pos e] at h; cases h
    · rw [if_neg e] at h; exact hr.dom id h
  · rw [hol] at h1
    by_cases e : id = X
    · exact hr.fresh id e0 b' (e ▸ he) hb1
    · rw [if_neg e] at h1; exact hr.fresh id e1 b' h1 hb1
  · refine ⟨hos.trans hr.keep.os, htp.trans hr.keep.tape, hou.trans hr.keep.output, by rw [hsz]; exact hr.keep.size, fun b' hb' hn => ?_⟩
    rw [hk b' (Nat.lt_of_lt_of_le hb' hr.keep.size) (fun e => ?_)]
    · exact hr.keep.block b' hb' hn
    · subst e
      rcases hr.fresh X e0 b' he hb with h | h
      · omega
      · exact hn h
  · rw [hol] at h1
    by_cases e : id = X
    · exact hr.nw id e0 b' (e ▸ he) hb1
    · rw [if_neg e] at h1; exact hr.nw id e1 b' h1 hb1
  · rw [hol] at h1
    by_cases e : id = X
    · subst e
      exact (hr.hold id ent0 e0 h0 he hp).trans (hsame id e0 he)
    · rw [if_neg e] at h1
      exact (hr.hold id ent0 e1 h0 h1 hp).trans (hsame id e1 h1)
  · obtain ⟨h1, h2⟩ := hr.mk1 b' hb' hn
    exact ⟨(hk b' (Nat.lt_of_lt_of_le hb' hr.mk0) fun e => h2 (e ▸ hFb)).trans h1, h2⟩
  · simp only [up1, memN, Bool.or_eq_false_iff] at hm
    obtain ⟨h1, h2⟩ := hr.mk2 id b' hb' hlt hm.2
    have hne : id ≠ X := fun e => by subst e; simp at hm
    rcases h2 with h2 | ⟨h2, ent1, h3⟩
    · exact ⟨(hk b' (Nat.lt_of_lt_of_le hlt hr.mk0) fun e => h2 (e ▸ hFb)).trans h1, .inl h2⟩
    · exact ⟨(hblk id ent1 b' hne h3 h2).1.trans h1, .inr ⟨h2, _, by rw [hol, if_neg hne]; exact h3⟩⟩

theorem Rl.box (hr : Rl P c z F β s tm w) {X : Nat} (hX : X < 10000) {cs : List V} (he : olook s.o X = some (.var cs)) (hdat : isDatal cs = true) :
    ∃ F' β', Rl P c z F' β' (boxE s X cs) tm w ∧ (∀ v x, RD w F v x → RD w F' v x) ∧ ∀ v x, RA w F β s.o v x → RA w F' β' (boxE s X cs).o v (V.sub (sbox X cs) x) := by
  refine ⟨fun b => F b ∧ β X ≠ some b, fun id => if id = X then none else β id, ?_⟩
  have hd : ∀ v x, RD w F v x → RD w (fun b => F b ∧ β X ≠ some b) v x := hd_of (fun _ _ _ => rfl) (fun _ _ h => h.1) (Nat.le_refl _)
  have hol : ∀ id, olook (boxE s X cs).o id = if id = X then none else (olook s.o id).map (Ent.sub (sbox X cs)) := fun id => by
    simp only [boxE]
    rw [olook_subO, olook_oerase]
    by_cases e : id = X <;> simp [e]
  have hsame : ∀ id e1, id ≠ X → olook s.o id = some e1 → Same w β s.o w (fun id => if id = X then none else β id) (boxE s X cs).o id id := fun id e1 hne h1 => by
    refine ⟨by simp [hne], fun cs h => ⟨_, by rw [hol, if_neg hne, h]; rfl⟩, fun fx' e' sz' α' f' l' h => ⟨fx', α', f', l', by rw [hol, if_neg hne, h]; rfl, rfl, fun b cur hb hc => ⟨cur, hc, rfl⟩⟩, fun α f l h => ⟨α, f, l, by rw [hol, if_neg hne, h]; rfl⟩⟩
  have hrep : ∀ v off, RA w F β s.o v (.ptr X off) → RD w (fun b => F b ∧ β X ≠ some b) v (.rptr (cs.drop off)) := fun v off hv => by
    obtain ⟨b, cs', hb, h1, rfl⟩ := RA.of_ptr hv
    rw [he] at h1; cases h1
    obtain ⟨b', cv, t, m1, m2, m3, m4, m5, m6⟩ := hr.own.ent X _ he
    rw [hb] at m1; cases m1
    have hget : ∀ (j : Nat) (y : V), (cs.drop off)[j]? = some y → ∃ v, cv[off + j]? = some v ∧ cs[off + j]? = some y := fun j y hj => by
      rw [List.getElem?_drop] at hj
      have hlt : off + j < cv.size := by rw [m4]; exact (List.getElem?_eq_some_iff.1 hj).1
      exact ⟨cv[off + j], Array.getElem?_eq_getElem hlt, hj⟩
    refine .rptr ⟨b, off, none⟩ _ rfl (fun h => h.2 hb) (blk_lt m3) (fun j => (cv[off + j]?).getD undef) (fun j y hj => ?_) (fun j y hj => ?_) (fun j y hj => ?_)
    · obtain ⟨v, g1, g2⟩ := hget j y hj
      simp only [g1, Option.getD_some]
      exact m5 v (Array.mem_of_getElem? g1)
    · obtain ⟨v, g1, g2⟩ := hget j y hj
      simp [World.cell?, m3, g1]
    · obtain ⟨v, g1, g2⟩ := hget j y hj
      simp only [g1, Option.getD_some]
      exact hd _ _ ((m6 _ v y g1 g2).data ((isDatal_iff _).1 hdat y (List.mem_of_getElem? g2)))
  have g : ∀ v x, RA w F β s.o v x → RA w (fun b => F b ∧ β X ≠ some b) (fun id => if id = X then none else β id) (boxE s X cs).o v (V.sub (sbox X cs) x) := fun v x hx => by
    refine RA.sub hd (fun v id hv => ?_) (fun v id off hv => ?_) (fun v id i off hv => ?_) (fun v id id' lo n he' hv => ?_) (fun v id id' off he' hv => ?_) hx
    case refine_5 =>
      obtain ⟨b, α, f, l, _, h1, _⟩ := RA.of_mp hv
      have hne : id ≠ X := fun e => by subst e; rw [he] at h1; cases h1
      simp only [sbox, beq_false (Ne.symm hne), V.ptr.injEq] at he'
      obtain ⟨rfl, _⟩ := he'
      exact (hsame id _ hne h1).mp hv
    · obtain ⟨fx, e', sz, α, f, l, h1, _⟩ := RA.of_osl hv
      have hne : id ≠ X := fun e => by subst e; rw [he] at h1; cases h1
      exact (hsame id _ hne h1).osl hv
    · simp only [sbox]
      by_cases e : id = X
      · subst e; rw [eqN_self]; exact .d _ _ (hrep v off hv)
      · rw [beq_false (Ne.symm e)]
        obtain ⟨b, cs, _, h1, _⟩ := RA.of_ptr hv
        exact (hsame id _ e h1).ptr hv
    · obtain ⟨b, fx, e', sz, n, α, f, l, _, h1, _⟩ := RA.of_eptr hv
      have hne : id ≠ X := fun e => by subst e; rw [he] at h1; cases h1
      exact (hsame id _ hne h1).eptr hv
    · simp only [sbox, V.osl.injEq] at he'
      subst he'
      obtain ⟨fx, e', sz, α, f, l, i, m, h1, _⟩ := RA.of_view hv
      have hne : id ≠ X := fun e => by subst e; rw [he] at h1; cases h1
      exact (hsame id _ hne h1).view hv
  have s3 : ∀ (id off t : Nat) (b : Bool) (v : V), (sbox X cs).ptr id off ≠ .opt t b v := fun id off t b v => by simp only [sbox]; cases (eqN id X) <;> simp
  have s4 : ∀ (id off : Nat) (b : Bool), (sbox X cs).ptr id off ≠ .nb b := fun id off b => by simp only [sbox]; cases (eqN id X) <;> simp
  have hzb : ∀ b, β X = some b → z.w.heap.size ≤ b := fun b hb => hr.nwl X _ b hX he hb
  have hblk : ∀ id e0 b, id ≠ X → olook s.o id = some e0 → β id = some b → F b ∧ β X ≠ some b := fun id e0 b hne h1 hb =>
    ⟨((hr.own.ent id e0 h1).blk hb).1, fun e => hne (hr.own.inj id X b e0 _ h1 he hb e)⟩
  refine ⟨?_, hd, g⟩
  refine { n := hr.n, env := fun t => ?_, own := ⟨fun id e1 h1 => ?_, fun id id' b e1 e2 h1 h2 hb1 hb2 => ?_⟩, F0F := fun b h => ⟨hr.F0F b h, fun e => by have := hzb b e; have := hr.zlt b h; omega⟩, Fnew := fun b hb h => hr.Fnew b hb h.1, Flt := fun b h => hr.Flt b h.1,
           dom := fun id h => ?_, fresh := fun id e1 b h1 hb => ?_, keep := hr.keep, glob := ⟨fun gg cs hg => hd _ _ (hr.glob.ok gg cs hg)⟩, tab := hr.tab, eqs := hr.eqs, low := hr.low, pins := hr.pins, zlt := hr.zlt, nw := fun id e1 b h1 hb => ?_, hold := fun id ent0 e1 h0 h1 hp => ?_, mk0 := hr.mk0, mk1 := fun b hb hn => let ⟨h1, h2⟩ := hr.mk1 b hb hn; ⟨h1, fun h => h2 h.1⟩, mk2 := fun id b hb hlt hm => ?_,
           prot := fun k o h => let ⟨h1, h2, h3⟩ := hr.prot k o h; ⟨⟨h1, h3 X⟩, h2, fun id hb => by
             by_cases e : id = X
             · rw [if_pos e] at hb; cases hb
             · rw [if_neg e] at hb; exact h3 id hb⟩ }
  · show RE _ _ _ _ _ _ (look (subE _ s.e) t)
    rw [look_subE]
    exact (hr.env t).sub g (by simp [sbox]) (by simp [sbox]) s3 s4 (by simp [sbox]) (by simp [sbox])
  · rw [hol] at h1
    by_cases e : id = X
    · rw [if_pos e] at h1; cases h1
    · rw [if_neg e] at h1
      simp only [Option.map_eq_some_iff] at h1
      obtain ⟨e2, h2, rfl⟩ := h1
      exact EntOk.sub hd g (by simp [e]) (fun b hb => ⟨rfl, hblk id e2 b e h2 hb⟩) (hr.own.ent id e2 h2)
  · rw [hol] at h1 h2
    by_cases e : id = X
    · rw [if_pos e] at h1; cases h1
    · by_cases e' : id' = X
      · rw [if_pos e'] at h2; cases h2
      · rw [if_neg e] at h1
        rw [if_neg e'] at h2
        simp only [Option.map_eq_some_iff] at h1 h2
        obtain ⟨e3, h3, _⟩ := h1
        obtain ⟨e4, h4, _⟩ := h2
        simp only [e, e', if_false] at hb1 hb2
        exact hr.own.inj id id' b e3 e4 h3 h4 hb1 hb2
  · rw [hol] at h
    by_cases e : id = X
    · simp [e]
    · rw [if_neg e] at h
      simp only [Option.map_eq_none_iff] at h
      simp only [e, if_false]
      exact hr.dom id h
  · rw [hol] at h1
    by_cases e : id = X
    · rw [if_pos e] at h1; cases h1
    · rw [if_neg e] at h1
      simp only [Option.map_eq_some_iff] at h1
      obtain ⟨e3, h3, _⟩ := h1
      simp only [e, if_false] at hb
      exact hr.fresh id e3 b h3 hb
  · rw [hol] at h1
    by_cases e : id = X
    · rw [if_pos e] at h1; cases h1
    · rw [if_neg e] at h1
      simp only [Option.map_eq_some_iff] at h1
      obtain ⟨e3, h3, _⟩ := h1
      simp only [e, if_false] at hb
      exact hr.nw id e3 b h3 hb
  · have hne : id ≠ X := fun e => by have := hr.low id ent0 h0; omega
    rw [hol, if_neg hne] at h1
    simp only [Option.map_eq_some_iff] at h1
    obtain ⟨e3, h3, _⟩ := h1
    exact (hr.hold id ent0 e3 h0 h3 hp).trans (hsame id e3 hne h3)
  · obtain ⟨h1, h2⟩ := hr.mk2 id b hb hlt hm
    refine ⟨h1, ?_⟩
    rcases h2 with h2 | ⟨h2, ent1, h3⟩
    · exact .inl fun h => h2 h.1
    · by_cases e : id = X
      · exact .inl fun h => h.2 (e ▸ h2)
      · exact .inr ⟨by simp [e, h2], _, by rw [hol, if_neg e, h3]; rfl⟩

/-- An own list, or a variable, becomes data. -/
theorem Rl.freeze (hr : Rl P c z F β s tm w) {X : Nat} (hX : X < 10000) :
    ∃ F' β', Rl P c z F' β' (frz1 s X) tm w ∧ (∀ v x, RD w F v x → RD w F' v x) ∧ ∀ v x, RA w F β s.o v x → RA w F' β' (frz1 s X).o v (fsub s X x) := by
  unfold frz1 fsub
  split
  case h_3 hn => exact ⟨F, β, hr, fun _ _ h => h, fun v x h => h⟩
  case h_4 hn => exact ⟨F, β, hr, fun _ _ h => h, fun v x h => h⟩
  case h_2 cs he =>
    cases hd : isDatal cs with
    | true =>
      obtain ⟨F', β', g1, g2, g3⟩ := hr.box hX he hd
      exact ⟨F', β', g1, g2, g3⟩
    | false => exact ⟨F, β, hr, fun _ _ h => h, fun v x h => h⟩
  rename_i fx e sz α f l he
  refine ⟨fun b => F b ∧ β X ≠ some b, fun id => if id = X then none else β id, ?_⟩
  have hd : ∀ v x, RD w F v x → RD w (fun b => F b ∧ β X ≠ some b) v x := hd_of (fun _ _ _ => rfl) (fun _ _ h => h.1) (Nat.le_refl _)
  have hol : ∀ id, olook (subO (sfrz X (.sl sz f l)) (oerase s.o X)) id = if id = X then none else (olook s.o id).map (Ent.sub (sfrz X (.sl sz f l))) := fun id => by
    rw [olook_subO, olook_oerase]
    by_cases e : id = X <;> simp [e]
  have hsame : ∀ id e1, id ≠ X → olook s.o id = some e1 → Same w β s.o w (fun id => if id = X then none else β id) (subO (sfrz X (.sl sz f l)) (oerase s.o X)) id id := fun id e1 hne h1 => by
    refine ⟨by simp [hne], fun cs h => ⟨_, by rw [hol, if_neg hne, h]; rfl⟩, fun fx' e' sz' α' f' l' h => ⟨fx', α', f', l', by rw [hol, if_neg hne, h]; rfl, rfl, fun b cur hb hc => ⟨cur, hc, rfl⟩⟩, fun α f l h => ⟨α, f, l, by rw [hol, if_neg hne, h]; rfl⟩⟩
  have hrep : ∀ v, RA w F β s.o v (.osl X) → RD w (fun b => F b ∧ β X ≠ some b) v (.sl sz f l) := fun v hv => by
    obtain ⟨fx1, e1, sz1, α1, f1, l1, h1, h2⟩ := RA.of_osl hv
    rw [he] at h1
    simp only [Option.some.injEq, Ent.arr.injEq] at h1
    obtain ⟨rfl, rfl, rfl, rfl, hf, hl⟩ := h1
    have hf := eq_of_heq hf
    have hl := eq_of_heq hl
    subst hf; subst hl
    rcases h2 with ⟨rfl, rfl⟩ | ⟨b, cc, cur, hb, rfl, k2, k3, k4, k5, k6⟩
    · exact .nilsl _ sz (by simp [V.elems])
    · rcases hr.own.ent X _ he with ⟨h, _⟩ | ⟨b', cur', m1, m2, m3, m4, m5, m6⟩
      · rw [h] at hb; cases hb
      · rw [hb] at m1; cases m1
        rw [k5] at m3; cases m3
        have hget : ∀ (i : Nat) (e : V), (l.map f)[i]? = some e → ∃ p, l[i]? = some p ∧ e = f p := fun i e h => by
          rw [List.getElem?_map, Option.map_eq_some_iff] at h
          obtain ⟨p, h1, h2⟩ := h
          exact ⟨p, h1, h2.symm⟩
        have hlen : l.length = (l.map f).length := by simp
        rw [hlen]
        refine .slice _ sz (l.map f) (by simp [V.elems]) (by simp) ⟨b, 0, none⟩ cc (by simpa using k2) (by simpa using k4) (fun _ => rfl) (fun _ h => h.2 hb) (fun _ => blk_lt k5) (fun i e h => ?_)
          (fun i j => (cur[i * sz + j]?).getD undef) (fun i e h j y hy => ?_) (fun i e h j y hy => ?_) (fun i e h j y hy => ?_)
        · obtain ⟨p, h1, rfl⟩ := hget i e h
          exact (m6 i p h1).1
        · obtain ⟨p, h1, rfl⟩ := hget i e h
          obtain ⟨cv, n1, n2⟩ := (m6 i p h1).2 j y hy
          simp only [n1, Option.getD_some]
          exact m5 cv (Array.mem_of_getElem? n1)
        · obtain ⟨p, h1, rfl⟩ := hget i e h
          obtain ⟨cv, n1, n2⟩ := (m6 i p h1).2 j y hy
          simp [World.cell?, k5, n1]
        · obtain ⟨p, h1, rfl⟩ := hget i e h
          obtain ⟨cv, n1, n2⟩ := (m6 i p h1).2 j y hy
          simp only [n1, Option.getD_some]
          exact hd _ _ n2
  have g : ∀ v x, RA w F β s.o v x → RA w (fun b => F b ∧ β X ≠ some b) (fun id => if id = X then none else β id) (subO (sfrz X (.sl sz f l)) (oerase s.o X)) v (V.sub (sfrz X (.sl sz f l)) x) := fun v x hx => by
    refine RA.sub hd (fun v id hv => ?_) (fun v id off hv => ?_) (fun v id i off hv => ?_) (fun v id id' lo n he hv => ?_) (fun v id id' off he' hv => ?_) hx
    case refine_5 =>
      obtain ⟨b, α, f, l, _, h1, _⟩ := RA.of_mp hv
      have hne : id ≠ X := fun e => by subst e; rw [he] at h1; cases h1
      simp only [sfrz, V.ptr.injEq] at he'
      obtain ⟨rfl, _⟩ := he'
      exact (hsame id _ hne h1).mp hv
    case refine_4 =>
      simp only [sfrz] at he
      cases hb : (eqN id X) with
      | true => rw [hb] at he; cases he
      | false =>
        rw [hb] at he
        simp only [cond_false, V.osl.injEq] at he
        subst he
        have hne : id ≠ X := fun e => by subst e; simp at hb
        obtain ⟨fx, e', sz, α, f, l, i, m, h1, _⟩ := RA.of_view hv
        exact (hsame id _ hne h1).view hv
    · simp only [sfrz]
      by_cases e : id = X
      · subst e
        simp only [eqN_self, cond_true]
        exact .d _ _ (hrep v hv)
      · rw [beq_false (Ne.symm e)]
        obtain ⟨fx, e', sz, α, f, l, h1, _⟩ := RA.of_osl hv
        exact (hsame id _ e h1).osl hv
    · obtain ⟨b, cs, _, h1, _⟩ := RA.of_ptr hv
      have hne : id ≠ X := fun e => by subst e; rw [he] at h1; cases h1
      exact (hsame id _ hne h1).ptr hv
    · simp only [sfrz]
      by_cases e : id = X
      · subst e; simp only [eqN_self, cond_true]; exact .junk _
      · rw [beq_false (Ne.symm e)]
        obtain ⟨b, fx, e', sz, n, α, f, l, _, h1, _⟩ := RA.of_eptr hv
        exact (hsame id _ e h1).eptr hv
  have s1 : ∀ (id t : Nat) (b : Bool) (v : V), (sfrz X (.sl sz f l)).osl id ≠ .opt t b v := fun id t b v => by simp only [sfrz]; cases (eqN id X) <;> simp
  have s2 : ∀ (id : Nat) (b : Bool), (sfrz X (.sl sz f l)).osl id ≠ .nb b := fun id b => by simp only [sfrz]; cases (eqN id X) <;> simp
  have s5 : ∀ (id : Nat) (i : IE) (off t : Nat) (b : Bool) (v : V), (sfrz X (.sl sz f l)).eptr id i off ≠ .opt t b v := fun id i off t b v => by simp only [sfrz]; cases (eqN id X) <;> simp
  have s6 : ∀ (id : Nat) (i : IE) (off : Nat) (b : Bool), (sfrz X (.sl sz f l)).eptr id i off ≠ .nb b := fun id i off b => by simp only [sfrz]; cases (eqN id X) <;> simp
  have hzb : ∀ b, β X = some b → z.w.heap.size ≤ b := fun b hb => hr.nwl X _ b hX he hb
  have hblk : ∀ id e0 b, id ≠ X → olook s.o id = some e0 → β id = some b → F b ∧ β X ≠ some b := fun id e0 b hne h1 hb =>
    ⟨((hr.own.ent id e0 h1).blk hb).1, fun e => hne (hr.own.inj id X b e0 _ h1 he hb e)⟩
  refine ⟨?_, hd, g⟩
  refine { n := hr.n, env := fun t => ?_, own := ⟨fun id e1 h1 => ?_, fun id id' b e1 e2 h1 h2 hb1 hb2 => ?_⟩, F0F := fun b h => ⟨hr.F0F b h, fun e => by have := hzb b e; have := hr.zlt b h; omega⟩, Fnew := fun b hb h => hr.Fnew b hb h.1, Flt := fun b h => hr.Flt b h.1,
           dom := fun id h => ?_, fresh := fun id e1 b h1 hb => ?_, keep := hr.keep, glob := ⟨fun gg cs hg => hd _ _ (hr.glob.ok gg cs hg)⟩, tab := hr.tab, eqs := hr.eqs, low := hr.low, pins := hr.pins, zlt := hr.zlt, nw := fun id e1 b h1 hb => ?_, hold := fun id ent0 e1 h0 h1 hp => ?_, mk0 := hr.mk0, mk1 := fun b hb hn => let ⟨h1, h2⟩ := hr.mk1 b hb hn; ⟨h1, fun h => h2 h.1⟩, mk2 := fun id b hb hlt hm => ?_,
           prot := fun k o h => let ⟨h1, h2, h3⟩ := hr.prot k o h; ⟨⟨h1, h3 X⟩, h2, fun id hb => by
             by_cases e : id = X
             · rw [if_pos e] at hb; cases hb
             · rw [if_neg e] at hb; exact h3 id hb⟩ }
  · show RE _ _ _ _ _ _ (look (subE _ s.e) t)
    rw [look_subE]
    exact (hr.env t).sub g s1 s2 (by simp [sfrz]) (by simp [sfrz]) s5 s6
  · simp only at h1
    rw [hol] at h1
    by_cases e : id = X
    · rw [if_pos e] at h1; cases h1
    · rw [if_neg e] at h1
      simp only [Option.map_eq_some_iff] at h1
      obtain ⟨e2, h2, rfl⟩ := h1
      exact EntOk.sub hd g (by simp [e]) (fun b hb => ⟨rfl, hblk id e2 b e h2 hb⟩) (hr.own.ent id e2 h2)
  · simp only at h1 h2
    rw [hol] at h1 h2
    by_cases e : id = X
    · rw [if_pos e] at h1; cases h1
    · by_cases e' : id' = X
      · rw [if_pos e'] at h2; cases h2
      · rw [if_neg e] at h1
        rw [if_neg e'] at h2
        simp only [Option.map_eq_some_iff] at h1 h2
        obtain ⟨e3, h3, _⟩ := h1
        obtain ⟨e4, h4, _⟩ := h2
        simp only [e, e', if_false] at hb1 hb2
        exact hr.own.inj id id' b e3 e4 h3 h4 hb1 hb2
  · simp only at h
    rw [hol] at h
    by_cases e : id = X
    · simp [e]
    · rw [if_neg e] at h
      simp only [Option.map_eq_none_iff] at h
      simp only [e, if_false]
      exact hr.dom id h
  · simp only at h1
    rw [hol] at h1
    by_cases e : id = X
    · rw [if_pos e] at h1; cases h1
    · rw [if_neg e] at h1
      simp only [Option.map_eq_some_iff] at h1
      obtain ⟨e3, h3, _⟩ := h1
      simp only [e, if_false] at hb
      exact hr.fresh id e3 b h3 hb
  · simp only at h1
    rw [hol] at h1
    by_cases e : id = X
    · rw [if_pos e] at h1; cases h1
    · rw [if_neg e] at h1
      simp only [Option.map_eq_some_iff] at h1
      obtain ⟨e3, h3, _⟩ := h1
      simp only [e, if_false] at hb
      exact hr.nw id e3 b h3 hb
  · have hne : id ≠ X := fun e => by have := hr.low id ent0 h0; omega
    simp only at h1
    rw [hol, if_neg hne] at h1
    simp only [Option.map_eq_some_iff] at h1
    obtain ⟨e3, h3, _⟩ := h1
    exact (hr.hold id ent0 e3 h0 h3 hp).trans (hsame id e3 hne h3)
  · obtain ⟨h1, h2⟩ := hr.mk2 id b hb hlt hm
    refine ⟨h1, ?_⟩
    rcases h2 with h2 | ⟨h2, ent1, h3⟩
    · exact .inl fun h => h2 h.1
    · by_cases e : id = X
      · exact .inl fun h => h.2 (e ▸ h2)
      · exact .inr ⟨by simp [e, h2], _, by simp only; rw [hol, if_neg e, h3]; rfl⟩

end
end Go.Vg
