/- The own layer, part A5: soundness of the conditions of code. -/
import Derived.Test.YtpdklmagncfhaaaDoorA4
import Derived.Lib.ConvBytes
import Derived.Laws.BytesString
import Derived.Laws.Strings
import Derived.Laws.Strings2
import Derived.OrdersHeld
set_option maxRecDepth 4000
set_option linter.all false
set_option linter.unusedVariables false
set_option linter.unusedSimpArgs false
/- The conditions suffice: any operation. -/
namespace Go.Vg
open Go

section
variable {P : Program} {c : Ctx} {z : From} {F : Nat → Prop} {β : Bt} {s : St} {tm : Array Value} {w : World} {a : Act} {op : Oper} {K : Out → Prop}

theorem chk_of {b : BE} {k : Unit → Prop} (h : chk b k) : b.den = true ∧ k () := by
  unfold chk at h
  split at h
  · exact ⟨rfl, h⟩
  · exact h.elim
  · exact ⟨h.1, h.2⟩
theorem br_of {b : BE} {t f : Unit → Prop} (h : br b t f) : (b.den = true → t ()) ∧ (b.den = false → f ()) := by
  unfold br at h
  split at h
  · exact ⟨fun _ => h, fun h => by simp [BE.den] at h⟩
  · exact ⟨fun h => by simp [BE.den] at h, fun _ => h⟩
  · exact ⟨h.1, h.2⟩
theorem nthv_get {l : List V} {n : Nat} {x : V} (h : nthv l n = some x) : l[n]? = some x := by
  induction l generalizing n with
  | nil => simp [nthv] at h
  | cons a r ih =>
    cases n with
    | zero => simpa [nthv] using h
    | succ n => simpa [nthv] using ih (by simpa [nthv] using h)
theorem bif_some' {α : Type _} {b : Bool} {x : Option α} {y : α} (h : (bif b then x else none) = some y) : b = true ∧ x = some y := by
  cases b
  · cases h
  · exact ⟨rfl, h⟩

theorem str_ty {T : Tab} (hT : TabOk P T) {t : TypeId} {q1 q2 : Nat} {q3 : List V} (ht : tlook T t = some ⟨.str, q1, q2, q3⟩) : P.underlying t = some .string := by
  obtain ⟨i1, z1, d1, k1, k2, k3, k4⟩ := hT.ok _ _ ht
  cases d1 <;> simp only [TD.of, reduceCtorEq] at k3
  exact k2
theorem int_ty {T : Tab} (hT : TabOk P T) {t : TypeId} {k : IntKind} {q1 q2 : Nat} {q3 : List V} (ht : tlook T t = some ⟨.int k, q1, q2, q3⟩) : P.underlying t = some (.int k) := by
  obtain ⟨i1, z1, d1, k1, k2, k3, k4⟩ := hT.ok _ _ ht
  cases d1 <;> simp only [TD.of, reduceCtorEq, TD.int.injEq] at k3
  rw [k2, k3]
theorem bstr_fold (l : List Int) : ∀ (r : ByteArray), (l.foldl (fun r n => r.push (UInt8.ofNat n.toNat)) r).data.toList = r.data.toList ++ bstr l := by
  induction l with
  | nil => intro r; simp [bstr]
  | cons n l ih => intro r; rw [List.foldl_cons, ih]; simp [bstr]
theorem step_str (ha : a.tmps = tm) (hr : Rl P c z F β s tm w) {im : List (Nat × Bool)} (him : ∀ t b, (t, b) ∈ im → tm.getD t undef = .bool b) {sr d el : TypeId} {x : Operand} {p1 p2 : Nat} {p3 : List V} {q1 q2 : Nat} {q3 : List V} {u1 u2 : Nat} {u3 : List V}
    (hop : op.op = .convert sr d x) (h1 : tlook c.T sr = some ⟨.slice el, p1, p2, p3⟩) (h2 : tlook c.T d = some ⟨.str, q1, q2, q3⟩) (h3 : tlook c.T el = some ⟨.int .u8, u1, u2, u3⟩)
    (hk : StrP s.o (res s.e im (evalO c s.e x)) (fun bs => K ⟨.str (.v bs), [], []⟩)) : StepTo P c z s tm w a op K := by
  obtain ⟨f, xs, hx, hf, hk⟩ := hk
  have hk := hk _ rfl
  have hy := res_ra ha hr.toRel him x
  obtain ⟨ad, cc, e1, e2, e3⟩ := news_cells hr.own hy hx (by decide)
  have hs := slice_ty hr.tab h1
  have he := int_ty hr.tab h3
  have hd := str_ty hr.tab h2
  have hrun : ∃ bs : ByteArray, bs.data.toList = bstr xs ∧ (Conv.bytesToString (.slice ad xs.length cc)).run P w = .ok (.string bs) w := by
    by_cases hxs : xs = []
    · subst hxs
      cases ad with
      | none => exact ⟨.empty, rfl, by simp [Conv.bytesToString, Sem.run_pure]⟩
      | some q =>
        have hl := run_loadCells_list (P := P) w q [] (by simp)
        exact ⟨.empty, rfl, run_bytesToString w q 0 cc [] (by simpa using hl)⟩
    · obtain ⟨b, off, news, rfl, n1, n2, n3, n4⟩ := e3.resolve_left hxs
      have hl := run_loadCells_list (P := P) w ⟨b, off, none⟩ news n2
      have hnews : news = xs.map (Value.int .u8) := by
        refine List.ext_getElem? fun i => ?_
        by_cases hi : i < xs.length
        · obtain ⟨p, hp⟩ : ∃ p, xs[i]? = some p := ⟨_, List.getElem?_eq_getElem hi⟩
          obtain ⟨_, r2⟩ := n4 i p hp
          obtain ⟨cv, s1, s2⟩ := r2 0 (.int .u8 (.v p)) (by rw [hf]; rfl)
          rw [Nat.mul_one, Nat.add_zero] at s1
          rw [s1, List.getElem?_map, hp, (RA.of_int (RA.d (β := β) (o := s.o) _ _ s2)).1]
          rfl
        · rw [List.getElem?_eq_none (by omega), List.getElem?_eq_none (by simp; omega)]
      rw [n1, Nat.mul_one, hnews] at hl
      exact ⟨_, by rw [bstr_fold]; simp, run_bytesToString w _ xs.length cc xs (by simpa using hl)⟩
  obtain ⟨bs, g1, g2⟩ := hrun
  refine StepTo.of_run (val := .string bs) (w' := w) ?_ hk hr (.d _ _ (.str _ _ g1.symm (by simp only [SE.den, bstr, List.length_map]; exact e2)))
  have hc := run_convert_bytes_string w sr d el ad xs.length cc hs he hd
  simp only [execOp, hop, Sem.run_bind, Sem.run_pure, e1, hc, g2, Result.andThen_ok]

theorem src_kind {T : Tab} (hT : TabOk P T) {t u el : TypeId} {q1 q2 : Nat} {q3 : List V} (ht : tlook T t = some ⟨.slice el, q1, q2, q3⟩) (h : (eqN t u || isStrT T u) = true) : (∃ e', P.underlying u = some (.slice e')) ∨ P.underlying u = some .string := by
  rw [Bool.or_eq_true] at h
  rcases h with h | h
  · rw [← eqN_true h]; exact .inl ⟨el, slice_ty hT ht⟩
  · unfold isStrT at h
    split at h
    · rename_i h1; exact .inr (str_ty hT h1)
    · cases h
theorem step_bytes (ha : a.tmps = tm) (hr : Rl P c z F β s tm w) {im : List (Nat × Bool)} (him : ∀ t b, (t, b) ∈ im → tm.getD t undef = .bool b) {sr d el : TypeId} {x : Operand} {e : SE} {p1 p2 : Nat} {p3 : List V} {q1 q2 : Nat} {q3 : List V} {u1 u2 : Nat} {u3 : List V}
    (hop : op.op = .convert sr d x) (h1 : tlook c.T sr = some ⟨.str, p1, p2, p3⟩) (h2 : tlook c.T d = some ⟨.slice el, q1, q2, q3⟩) (h3 : tlook c.T el = some ⟨.int .u8, u1, u2, u3⟩) (hx : res s.e im (evalO c s.e x) = .str e)
    (hk : BytP e (fun l => K ⟨.sl 1 u8V l, [], []⟩)) : StepTo P c z s tm w a op K := by
  obtain ⟨hk⟩ := hk
  have hk := hk _ rfl
  have hy := res_ra ha hr.toRel him x
  rw [hx] at hy
  obtain ⟨he, hl⟩ := RA.of_str hy
  have hrun := Lib.run_convert_string_bytes (P := P) w sr d el ⟨e.den.toArray⟩ (str_ty hr.tab h1) (slice_ty hr.tab h2) (int_ty hr.tab h3)
  have hsz : (⟨e.den.toArray⟩ : ByteArray).size = ((bytesI e.den).map u8V).length := by simp [ByteArray.size, bytesI]
  obtain ⟨g1, g2, _⟩ := hr.world (w' := Lib.bytesWorld w el ⟨e.den.toArray⟩) (F' := F) (fun b hb => Lib.bytesWorld_at_old w el _ b hb) rfl rfl ⟨rfl, .inr (Nat.le_succ _)⟩ (by rw [Lib.bytesWorld_size]; omega) (fun _ h => h) (fun _ _ h => h) (fun b h => by have := hr.Flt b h; rw [Lib.bytesWorld_size]; omega)
  refine StepTo.of_run ?_ hk g1 (.d _ _ ?_) (w' := Lib.bytesWorld w el ⟨e.den.toArray⟩) (val := .slice (some ⟨w.heap.size, 0, none⟩) ((bytesI e.den).map u8V).length (grownCap w (⟨e.den.toArray⟩ : ByteArray).size 0 el))
  · rw [← hsz]; simp only [execOp, hop, Sem.run_bind, Sem.run_pure, he, hrun, Result.andThen_ok]
  · refine .slice _ 1 ((bytesI e.den).map u8V) rfl (by simp) ⟨w.heap.size, 0, none⟩ _ (by rw [← hsz]; exact grownCap_ge w _ 0 el) (by simpa [bytesI] using hl) (fun _ => rfl) (fun _ h => absurd (hr.Flt _ h) (by simp)) (fun _ => by rw [Lib.bytesWorld_size]; exact Nat.lt_succ_self _) (fun i x hi => ?_) (fun i _ => .int .u8 ((e.den.getD i 0).toNat : Int))
      (fun i x hi j y hj => rfl) (fun i x hi j y hj => ?_) (fun i x hi j y hj => ?_)
    all_goals
      rw [bytesI, List.map_map, List.getElem?_map, Option.map_eq_some_iff] at hi
      obtain ⟨b, hb, rfl⟩ := hi
    · rfl
    all_goals
      have hj0 : j = 0 := by have := (List.getElem?_eq_some_iff.1 hj).1; simp only [Function.comp, u8V, cells, List.length_cons, List.length_nil] at this; omega
      subst hj0
    · have hi := (List.getElem?_eq_some_iff.1 hb).1
      have := Lib.bytesWorld_cell w el ⟨e.den.toArray⟩ i (by simpa [ByteArray.size] using hi)
      simpa using this
    · simp only [Function.comp, u8V, cells, List.getElem?_cons_zero, Option.some.injEq] at hj
      subst hj
      refine .int _ _ _ (by simp [IE.den, hb]) ?_
      have := (e.den.getD i 0).toNat_lt
      rw [has_iff]; simp only [lo, Go.Vg.hi]; omega

/-- A place told otherwise. -/
theorem YieldTo.rptr {e e' : V} {J : V → Prop} (hv : VEq e e') (hk : J (.rptr (cells e'))) (h : YieldTo P s w F β a op (fun v => v = .rptr (cells e))) : YieldTo P s w F β a op J := by
  obtain ⟨v, x, h1, h2, rfl⟩ := h
  exact ⟨v, _, h1, (LeP.rptr (o := s.o) _ _ hv).ra h2, hk⟩
/-- A cell is not cells. -/
theorem YieldTo.cell1 (ha : a.tmps = tm) (hr : Rl P c z F β s tm w) {im : List (Nat × Bool)} (him : ∀ t b, (t, b) ∈ im → tm.getD t undef = .bool b) {x : Operand} {cs : List V} {n : Nat} {e : V} (hx : res s.e im (evalO c s.e x) = .rptr cs) (he : cs[n]? = some e)
    (h : YieldTo P s w F β a op (fun v => v = .rptr [e])) : YieldTo P s w F β a op (fun v => v = .rptr (cells e)) := by
  have hc : cells e = [e] := by
    have h1 := RA.of_rptr (hx ▸ res_ra ha hr.toRel him x)
    generalize hz : V.rptr cs = z' at h1
    generalize a.eval x = v at h1
    cases h1 with
    | rptr ad xs hs hF hb cv hone hcv hr' =>
      cases hz
      have g1 := hone n e he
      have g2 := hr' n e he
      cases e with
      | agg ys =>
        generalize cv n = u at g1 g2
        generalize hy : V.agg ys = y at g2
        cases g2 with
        | agg => simp [Value.oneCell'] at g1
        | nilsl x sz hx' => subst hy; simp [V.elems] at hx'
        | slice x sz es hx' => subst hy; simp [V.elems] at hx'
        | _ => cases hy
      | _ => rfl
    | nilsl x sz hx' => subst hz; simp [V.elems] at hx'
    | slice x sz es hx' => subst hz; simp [V.elems] at hx'
    | _ => cases hz
  rw [hc]; exact h
theorem chunks_spec {sz : Nat} : ∀ {n : Nat} {cs ys : List V}, chunks sz n cs = some ys → ys.length = n ∧ ∀ (i : Nat) (y : V), ys[i]? = some y → ∀ (j : Nat) (v : V), (cells y)[j]? = some v → cs[i * sz + j]? = some v
  | 0, [], ys, h => by simp only [chunks, Option.some.injEq] at h; subst h; simp
  | 0, _ :: _, ys, h => by simp [chunks] at h
  | n + 1, cs, ys, h => by
    simp only [chunks] at h
    obtain ⟨h1, h⟩ := bif_some' h
    simp only [Bool.and_eq_true] at h1
    split at h
    · rename_i r hr
      simp only [Option.some.injEq] at h; subst h
      obtain ⟨m1, m2⟩ := chunks_spec hr
      refine ⟨by simp [m1], fun i y hi j v hj => ?_⟩
      cases i with
      | zero =>
        simp at hi; subst hi
        simp only [cells] at hj
        rw [List.getElem?_take] at hj
        split at hj
        · simpa using hj
        · cases hj
      | succ i =>
        have := m2 i y (by simpa using hi) j v hj
        rw [List.getElem?_drop] at this
        rw [← this]; congr 1; rw [Nat.succ_mul]; omega
    · cases h
theorem chunks_len {sz : Nat} : ∀ {n : Nat} {cs ys : List V}, chunks sz n cs = some ys → ∀ (i : Nat) (y : V), ys[i]? = some y → (cells y).length = sz
  | 0, [], ys, h, i, y, hi => by simp only [chunks, Option.some.injEq] at h; subst h; simp at hi
  | 0, _ :: _, ys, h, _, _, _ => by simp [chunks] at h
  | n + 1, cs, ys, h, i, y, hi => by
    simp only [chunks] at h
    obtain ⟨h1, h⟩ := bif_some' h
    simp only [Bool.and_eq_true, leN_iff] at h1
    split at h
    · rename_i r hr
      simp only [Option.some.injEq] at h; subst h
      cases i with
      | zero => simp at hi; subst hi; simp [cells]; omega
      | succ i => exact chunks_len hr i y (by simpa using hi)
    · cases h
/-- An array that nobody writes, as a slice. -/
theorem rptr_slice {ad : Option Addr} {cs ys : List V} {sz n : Nat} (h : RD w F (.pointer ad) (.rptr cs)) (hy : arrEls sz n cs = some ys) {α : Type} {f : α → V} {l : List α} (hl : ys.length = l.length) (hv : ∀ (i : Nat) (e : V) (p : α), ys[i]? = some e → l[i]? = some p → VEq e (f p)) :
    ∃ a, ad = some a ∧ a.spot = none ∧ RD w F (.slice (some a) l.length l.length) (.sl sz f l) ∧ l.length = n := by
  generalize hz : V.rptr cs = z' at h
  generalize hu : Value.pointer ad = u at h
  cases h with
  | rptr a xs hs hF hb cv hone hcv hr =>
    cases hz; cases hu
    have one : ∀ (j : Nat) (y : V), cs[j]? = some y → cells y = [y] := fun j y hj => by
      have g1 := hone j y hj
      have g2 := hr j y hj
      cases y with
      | agg ys =>
        generalize cv j = u at g1 g2
        generalize hy : V.agg ys = y at g2
        cases g2 with
        | agg => simp [Value.oneCell'] at g1
        | nilsl x sz hx' => subst hy; simp [V.elems] at hx'
        | slice x sz es hx' => subst hy; simp [V.elems] at hx'
        | _ => cases hy
      | _ => rfl
    have spec : ys.length = n ∧ n ≤ 1000000 ∧ ∀ (i : Nat) (y : V), ys[i]? = some y → (cells y).length = sz ∧ ∀ (j : Nat) (v : V), (cells y)[j]? = some v → cs[i * sz + j]? = some v := by
      unfold arrEls at hy
      obtain ⟨h1, hy⟩ := bif_some' hy
      simp only [Bool.and_eq_true, leN_iff] at h1
      cases he : eqN sz 1 with
      | true =>
        rw [he] at hy
        simp only [cond_true, Option.some.injEq] at hy; subst hy
        have := eqN_true he
        subst this
        refine ⟨by simp; omega, h1.2, fun i y hi => ?_⟩
        rw [List.getElem?_take] at hi
        split at hi
        · rw [one i y hi]
          refine ⟨rfl, fun j v hj => ?_⟩
          cases j with
          | zero => simp at hj; subst hj; simpa using hi
          | succ j => simp at hj
        · cases hi
      | false =>
        rw [he] at hy
        simp only [cond_false] at hy
        obtain ⟨m1, m2⟩ := chunks_spec hy
        refine ⟨m1, h1.2, fun i y hi => ⟨chunks_len hy i y hi, fun j v hj => ?_⟩⟩
        have := m2 i y hi j v hj
        rw [List.getElem?_take] at this
        split at this
        · exact this
        · cases this
    obtain ⟨s1, s2, s3⟩ := spec
    have hget : ∀ (i : Nat) (e : V), (l.map f)[i]? = some e → ∃ y, ys[i]? = some y ∧ VEq y e := fun i e he => by
      rw [List.getElem?_map, Option.map_eq_some_iff] at he
      obtain ⟨p, hp, rfl⟩ := he
      have hlt : i < ys.length := by rw [hl]; exact (List.getElem?_eq_some_iff.1 hp).1
      exact ⟨_, List.getElem?_eq_getElem hlt, hv i _ p (List.getElem?_eq_getElem hlt) hp⟩
    have hcell : ∀ (i : Nat) (e : V), (l.map f)[i]? = some e → ∀ (j : Nat) (y : V), (cells e)[j]? = some y → ∃ v, cs[i * sz + j]? = some v ∧ CEq v y := fun i e he j y hj => by
      obtain ⟨y0, h1, h2⟩ := hget i e he
      have hlt : j < (cells y0).length := by rw [h2.1]; exact (List.getElem?_eq_some_iff.1 hj).1
      have hg := List.getElem?_eq_getElem hlt
      exact ⟨_, (s3 i y0 h1).2 j _ hg, h2.2 j _ _ hg hj⟩
    refine ⟨a, rfl, hs, ?_, by omega⟩
    have key : RD w F (.slice (some a) (l.map f).length l.length) (.sl sz f l) := .slice _ sz (l.map f) (by simp [V.elems]) (by simp) a l.length (by simp) (by simp only [List.length_map, LIM]; omega) (fun _ => hs) (fun _ => hF) (fun _ => hb)
      (fun i e he => by obtain ⟨y0, h1, h2⟩ := hget i e he; rw [← h2.1]; exact (s3 i y0 h1).1) (fun i j => cv (i * sz + j))
      (fun i e he j y hj => by obtain ⟨v, h1, _⟩ := hcell i e he j y hj; exact hone _ v h1)
      (fun i e he j y hj => by obtain ⟨v, h1, _⟩ := hcell i e he j y hj; rw [← hcv _ v h1, Nat.add_assoc])
      (fun i e he j y hj => by obtain ⟨v, h1, h2⟩ := hcell i e he j y hj; exact h2 _ _ _ (hr _ v h1))
    simpa using key
  | nilsl x sz hx' => subst hz; simp [V.elems] at hx'
  | slice x sz es hx' => subst hz; simp [V.elems] at hx'
  | _ => cases hz
theorem loOf_ra (ha : a.tmps = tm) (hr : Rl P c z F β s tm w) {im : List (Nat × Bool)} (him : ∀ t b, (t, b) ∈ im → tm.getD t undef = .bool b) {lo : Option Operand} {l0 : IE} (h : loOf c im s lo = some l0) {n : Nat} (hn : l0.den = (n : Int)) : (lo.map a.eval = none ∧ n = 0) ∨ ∃ k, lo.map a.eval = some (.int k (n : Int)) := by
  cases lo with
  | none => simp only [loOf, Option.some.injEq] at h; subst h; simp only [IE.den] at hn; exact .inl ⟨rfl, by omega⟩
  | some y =>
    simp only [loOf] at h
    obtain ⟨k, hy, _⟩ := ieOf_ra (res_ra ha hr.toRel him y) h
    exact .inr ⟨k, by simp [hy, hn]⟩
theorem hiOf_ra (ha : a.tmps = tm) (hr : Rl P c z F β s tm w) {im : List (Nat × Bool)} (him : ∀ t b, (t, b) ∈ im → tm.getD t undef = .bool b) {hi : Option Operand} {h0 : Option IE} (h : hiOf c im s hi = some h0) {d : IE} {n m : Nat} (hd : d.den = (m : Int)) (hn : (h0.getD d).den = (n : Int)) : (hi.map a.eval = none ∧ n = m) ∨ ∃ k, hi.map a.eval = some (.int k (n : Int)) := by
  cases hi with
  | none => simp only [hiOf, Option.some.injEq] at h; subst h; simp only [Option.getD_none] at hn; exact .inl ⟨rfl, by omega⟩
  | some y =>
    simp only [hiOf] at h
    split at h
    · rename_i e he
      simp only [Option.some.injEq] at h; subst h
      obtain ⟨k, hy, _⟩ := ieOf_ra (res_ra ha hr.toRel him y) he
      simp only [Option.getD_some] at hn
      exact .inr ⟨k, by simp [hy, hn]⟩
    · cases h
theorem sliceAtArr_run {t el : TypeId} {n : Nat} (hu : P.underlying t = some (.array n el)) {T : Tab} (hT : TabOk P T) {ti : TI} (hel : tlook T el = some ti) {a : Addr} {lo hi : Option Value} {l h : Nat} (hlo : (lo = none ∧ l = 0) ∨ ∃ k, lo = some (.int k (l : Int))) (hhi : (hi = none ∧ h = n) ∨ ∃ k, hi = some (.int k (h : Int)))
    (h1 : l ≤ h) (h2 : h ≤ n) (w : World) : (Instr.sliceAt t (.pointer (some a)) lo hi none).run P w = .ok (.slice (if n = l then some a else (some a).map (·.add (l * ti.sz))) (h - l) (n - l)) w := by
  have hb : (Instr.sliceBounds false n n lo hi none).run P w = .ok (l, h, n) w := by
    unfold Instr.sliceBounds
    rcases hhi with ⟨rfl, rfl⟩ | ⟨k, rfl⟩ <;> rcases hlo with ⟨rfl, rfl⟩ | ⟨k', rfl⟩
    · simp
    · simp [sliceBound_run (P := P) (w := w) rfl h1]
    · simp [sliceBound_run (P := P) (w := w) rfl h2]
    · simp [sliceBound_run (P := P) (w := w) rfl h1, sliceBound_run (P := P) (w := w) rfl h2]
  have e : (if n = l then some a else (some a).map (·.add (l * ti.sz))) = some (if n = l then a else a.add (l * ti.sz)) := by split <;> rfl
  rw [e]
  simp [Instr.sliceAt, Instr.sureAddr, run_underlying hu, hb, sizeOf_run hT hel]
theorem sliceAtStr_run {t : TypeId} (hu : P.underlying t = some .string) {s : ByteArray} {lo hi : Option Value} {l h : Nat} (hlo : (lo = none ∧ l = 0) ∨ ∃ k, lo = some (.int k (l : Int))) (hhi : (hi = none ∧ h = s.size) ∨ ∃ k, hi = some (.int k (h : Int)))
    (h1 : l ≤ h) (h2 : h ≤ s.size) (w : World) : (Instr.sliceAt t (.string s) lo hi none).run P w = .ok (.string (s.extract l h)) w := by
  have hb : (Instr.sliceBounds false s.size s.size lo hi none).run P w = .ok (l, h, s.size) w := by
    unfold Instr.sliceBounds
    rcases hhi with ⟨rfl, rfl⟩ | ⟨k, rfl⟩ <;> rcases hlo with ⟨rfl, rfl⟩ | ⟨k', rfl⟩
    · simp
    · simp [sliceBound_run (P := P) (w := w) rfl h1]
    · simp [sliceBound_run (P := P) (w := w) rfl h2]
    · simp [sliceBound_run (P := P) (w := w) rfl h1, sliceBound_run (P := P) (w := w) rfl h2]
  simp [Instr.sliceAt, Instr.slice, run_underlying hu, hb]
/-- A part of an array that nobody writes. -/
theorem step_subA (ha : a.tmps = tm) (hr : Rl P c z F β s tm w) {im : List (Nat × Bool)} (him : ∀ t b, (t, b) ∈ im → tm.getD t undef = .bool b) {t el : TypeId} {x : Operand} {lo hi : Option Operand} {ti : TI} {n q1 q2 : Nat} {q3 : List V} {l0 : IE} {h0 : Option IE}
    (ht : tlook c.T t = some ⟨.arr n el, q1, q2, q3⟩) (hel : tlook c.T el = some ti) (hlo : loOf c im s lo = some l0) (hhi : hiOf c im s hi = some h0) (hop : op.op = .slice t x lo hi none)
    {F1 : Nat → Prop} {cs ys : List V} (hx : RD w F1 (a.eval x) (.rptr cs)) (hy : arrEls ti.sz n cs = some ys) {k : (α : Type) → (α → V) → List α → Prop} (hk : SubA ys l0 (h0.getD (.lit n)) k) :
    ∃ v, (∀ w', (execOp a.eval op).run P w' = .ok (.value v) w') ∧ ∃ α f l', RD w F1 v (.sl ti.sz f l') ∧ k α f l' := by
  obtain ⟨f, l, hl, hv, lo', hi', ha1, ha2, ha3, ha4, hk⟩ := hk
  obtain ⟨ad, had⟩ := rptr_val hx
  rw [had] at hx
  obtain ⟨a1, e1, e2, e3, e4⟩ := rptr_slice hx hy hl hv
  cases e1
  obtain ⟨ad', cc, m1, m2, _, m3⟩ := sub_rd e3 lo' hi' ha3 ha4
  cases m1
  have hrun := fun w' => sliceAtArr_run (P := P) (arr_ty hr.tab ht) hr.tab hel (a := ad) (loOf_ra ha hr him hlo ha1) (hiOf_ra ha hr him hhi (d := .lit n) (m := n) rfl ha2) ha3 (by omega) w'
  rw [e4] at m3
  exact ⟨_, fun w' => by simp only [execOp, hop, Sem.run_bind, had, hrun, Option.map_none, Result.andThen_ok, Sem.run_pure], _, f, _, m3, hk _ rfl⟩
theorem semiOp_sound (ha : a.tmps = tm) (hr : Rl P c z F β s tm w) {im : List (Nat × Bool)} (him : ∀ t b, (t, b) ∈ im → tm.getD t undef = .bool b) {q : (V → Prop) → Prop} (h : semiOp c im op.op s = some q) {J : V → Prop} (hq : q J) : YieldTo P s w F β a op J := by
  unfold semiOp at h
  split at h
  · -- binOp
    rename_i o xt x y yt hop
    split at h
    · rename_i q' z' h1
      simp only [Option.some.injEq] at h; subst h
      obtain ⟨g1, hq⟩ := chk_of hq
      obtain ⟨v, h2, h3⟩ := divV_run (P := P) (t := xt) (ox := x) (oy := y) (res_ra ha hr.toRel him x) (res_ra ha hr.toRel him y) h1 g1
      exact ⟨v, _, fun w' => by have h2 := h2 w'; simp only [execOp, hop, Sem.run_bind, Sem.run_pure] at h2 ⊢; rw [h2]; rfl, h3, hq⟩
    · have nil : ∀ {t : TypeId} {el : TypeId} {q1 q2 : Nat} {q3 : List V} {sz : Nat} {α : Type} {f : α → V} {l : List α}, tlook c.T t = some ⟨.slice el, q1, q2, q3⟩ → res s.e im (evalO c s.e x) = .sl sz f l → res s.e im (evalO c s.e y) = .nilsl →
          ∃ b : Bool, (b = true → l = []) ∧ (∀ (op : BinOp) (ox oy : Operand) w', (eqGuard op t ox oy (a.eval x) (a.eval y)).run P w' = .ok () w') ∧ (∀ w', (Go.binOp .eql t (a.eval x) (a.eval y)).run P w' = .ok (.bool b) w') ∧ (∀ w', (Go.binOp .neq t (a.eval x) (a.eval y)).run P w' = .ok (.bool (!b)) w') := by
        intro t el q1 q2 q3 sz α f l ht hx hy
        have h1 := res_ra ha hr.toRel him x
        have h2 := res_ra ha hr.toRel him y
        rw [hx] at h1; rw [hy] at h2
        have hu := slice_ty hr.tab ht
        have h1 := RA.of_elems h1 (rfl : (V.sl sz f l).elems = some (sz, l.map f))
        have h2 := RA.of_nilsl h2
        rw [h2]
        obtain ⟨ad, cc, hv, hn⟩ : ∃ ad cc, a.eval x = .slice ad l.length cc ∧ (ad.isNone = true → l = []) := by
          generalize a.eval x = v at h1
          generalize hz : V.sl sz f l = z' at h1
          cases h1 with
          | nilsl x' sz' hx' => subst hz; simp only [V.elems, Option.some.injEq, Prod.mk.injEq, List.map_eq_nil_iff] at hx'; exact ⟨none, 0, by simp [hx'.2], fun _ => hx'.2⟩
          | slice x' sz' es hx' hnn ad c' hc => subst hz; simp only [V.elems, Option.some.injEq, Prod.mk.injEq] at hx'; obtain ⟨rfl, rfl⟩ := hx'; exact ⟨some ad, c', by simp, fun h => by simp at h⟩
          | _ => cases hz
        rw [hv]
        refine ⟨ad.isNone, hn, fun op ox oy w' => by unfold eqGuard; cases op <;> rfl, fun w' => (eql_slnil (run_equalIn_slice_nil w' 9999 t _ ad _ _ hu)).1, fun w' => (eql_slnil (run_equalIn_slice_nil w' 9999 t _ ad _ _ hu)).2⟩
      have nilO : ∀ {t : TypeId} {el : TypeId} {q1 q2 : Nat} {q3 : List V} {id : Nat} {fx : Bool} {e : TypeId} {sz : Nat} {α : Type} {f : α → V} {l : List α}, tlook c.T t = some ⟨.slice el, q1, q2, q3⟩ → res s.e im (evalO c s.e x) = .osl id → olook s.o id = some (.arr fx e sz f l) → res s.e im (evalO c s.e y) = .nilsl →
          ∃ b : Bool, (b = true → l = []) ∧ (∀ (op : BinOp) (ox oy : Operand) w', (eqGuard op t ox oy (a.eval x) (a.eval y)).run P w' = .ok () w') ∧ (∀ w', (Go.binOp .eql t (a.eval x) (a.eval y)).run P w' = .ok (.bool b) w') ∧ (∀ w', (Go.binOp .neq t (a.eval x) (a.eval y)).run P w' = .ok (.bool (!b)) w') := by
        intro t el q1 q2 q3 id fx e sz α f l ht hx hlk hy
        have h1 := res_ra ha hr.toRel him x
        have h2 := res_ra ha hr.toRel him y
        rw [hx] at h1; rw [hy] at h2
        have hu := slice_ty hr.tab ht
        have h2 := RA.of_nilsl h2
        rw [h2]
        obtain ⟨fx', e', sz', α', f', l', k1, k2⟩ := RA.of_osl h1
        rw [hlk] at k1; cases k1
        obtain ⟨ad, n, cc, hv, hn⟩ : ∃ ad n cc, a.eval x = .slice ad n cc ∧ (ad.isNone = true → l = []) := by
          rcases k2 with ⟨k2, k3⟩ | ⟨b, cc, cur, _, k3, _⟩
          · exact ⟨_, _, _, k3, fun _ => k2⟩
          · exact ⟨_, _, _, k3, fun h => by simp at h⟩
        rw [hv]
        refine ⟨ad.isNone, hn, fun op ox oy w' => by unfold eqGuard; cases op <;> rfl, fun w' => (eql_slnil (run_equalIn_slice_nil w' 9999 t _ ad _ _ hu)).1, fun w' => (eql_slnil (run_equalIn_slice_nil w' 9999 t _ ad _ _ hu)).2⟩
      split at h
      · rename_i h1 h2 h3 _
        simp only [Option.some.injEq] at h; subst h
        obtain ⟨b, g1, g2, g3, _⟩ := nil h1 h2 h3
        obtain ⟨ht, hf⟩ := hq
        refine ⟨.bool b, .bool (.lit b), fun w' => by simp only [execOp, hop, Sem.run_bind, Sem.run_pure, g2, g3, Result.andThen_ok], ra_bool rfl, ?_⟩
        cases b with
        | true => exact ht (g1 rfl)
        | false => exact hf
      · rename_i h1 h2 h3 _
        simp only [Option.some.injEq] at h; subst h
        obtain ⟨b, g1, g2, _, g3⟩ := nil h1 h2 h3
        obtain ⟨ht, hf⟩ := hq
        refine ⟨.bool (!b), .bool (.lit (!b)), fun w' => by simp only [execOp, hop, Sem.run_bind, Sem.run_pure, g2, g3, Result.andThen_ok], ra_bool rfl, ?_⟩
        cases b with
        | true => exact ht (g1 rfl)
        | false => exact hf
      · rename_i h1 h2 h3 _
        split at h
        · rename_i h4
          simp only [Option.some.injEq] at h; subst h
          obtain ⟨b, g1, g2, g3, _⟩ := nilO h1 h2 h4 h3
          obtain ⟨ht, hf⟩ := hq
          refine ⟨.bool b, .bool (.lit b), fun w' => by simp only [execOp, hop, Sem.run_bind, Sem.run_pure, g2, g3, Result.andThen_ok], ra_bool rfl, ?_⟩
          cases b with
          | true => exact ht (g1 rfl)
          | false => exact hf
        · cases h
      · rename_i h1 h2 h3 _
        split at h
        · rename_i h4
          simp only [Option.some.injEq] at h; subst h
          obtain ⟨b, g1, g2, _, g3⟩ := nilO h1 h2 h4 h3
          obtain ⟨ht, hf⟩ := hq
          refine ⟨.bool (!b), .bool (.lit (!b)), fun w' => by simp only [execOp, hop, Sem.run_bind, Sem.run_pure, g2, g3, Result.andThen_ok], ra_bool rfl, ?_⟩
          cases b with
          | true => exact ht (g1 rfl)
          | false => exact hf
        · cases h
      · cases h
  · -- indexAddr
    rename_i t x y hop
    split at h
    · rename_i el q1 q2 q3 ie h1 h2
      split at h
      · rename_i ti h3
        split at h
        · rename_i sz α f l h4
          replace h := bif_some' h
          obtain ⟨h5, h⟩ := h
          have := eqN_true h5
          subst this; simp only [Option.some.injEq] at h; subst h
          obtain ⟨g0, g1, g2⟩ := hq
          have hlt : ie.den.toNat < l.length := by omega
          have hp : l[ie.den.toNat]? = some l[ie.den.toNat] := List.getElem?_eq_getElem hlt
          have hw := res_ra ha hr.toRel him x
          rw [h4] at hw
          have hwf := (RA.of_elems hw rfl).wf
          simp only [V.wf] at hwf
          exact step_elem ha hr him hop h1 h2 h3 h4 (n := ie.den.toNat) rfl (by omega) (e := f l[ie.den.toNat]) (by simp [hlt]) (g2 _ hp (hwf.2 _ (List.getElem_mem hlt)))
        · rename_i sz vs h4
          replace h := bif_some' h
          obtain ⟨h5, h⟩ := h
          have := eqN_true h5
          subst this
          split at h
          · rename_i n h6
            split at h
            · rename_i v h7
              simp only [Option.some.injEq] at h; subst h
              exact step_elem ha hr him hop h1 h2 h3 h4 rfl (natOf_den h6) (nthv_get h7) hq
            · cases h
          · simp only [Option.some.injEq] at h; subst h
            obtain ⟨f, l, gl, gv, g0, g1, g2⟩ := hq
            have hlt : ie.den.toNat < vs.length := by omega
            have hlt' : ie.den.toNat < l.length := by omega
            exact YieldTo.rptr (gv _ _ _ (List.getElem?_eq_getElem hlt) (List.getElem?_eq_getElem hlt')) (g2 _ (List.getElem?_eq_getElem hlt')) (step_elem ha hr him hop h1 h2 h3 h4 (n := ie.den.toNat) (J := fun v => v = .rptr (cells vs[ie.den.toNat])) rfl (by omega) (List.getElem?_eq_getElem hlt) rfl)
        · rename_i id lo n h4
          split at h
          · rename_i fx e sz α f l h5
            replace h := bif_some' h
            obtain ⟨h6, h⟩ := h
            have := eqN_true h6
            subst this; simp only [Option.some.injEq] at h; subst h
            replace hq := chk_of hq
            obtain ⟨g1, hq⟩ := hq
            replace hq := chk_of hq
            obtain ⟨g2, hq⟩ := hq
            have k1 : 0 ≤ ie.den := by simpa [cmpI_den, cmpD, IE.den] using g1
            have k2 : ie.den < n.den := by rw [cmpI_den] at g2; exact of_decide_eq_true g2
            exact step_vwelem ha hr him hop h1 h2 h3 h4 h5 k1 k2 hq
          · cases h
        · rename_i id h4
          split at h
          · rename_i fx e sz α f l h5
            replace h := bif_some' h
            obtain ⟨h6, h⟩ := h
            have := eqN_true h6
            subst this; simp only [Option.some.injEq] at h; subst h
            replace hq := chk_of hq
            obtain ⟨g1, hq⟩ := hq
            replace hq := chk_of hq
            obtain ⟨g2, hq⟩ := hq
            have k1 : 0 ≤ ie.den := by simpa [cmpI_den, cmpD, IE.den] using g1
            have k2 : ie.den < l.length := by rw [cmpI_den] at g2; exact of_decide_eq_true g2
            exact step_oelem ha hr him hop h1 h2 h3 h4 h5 k1 k2 hq
          · cases h
        · cases h
      · cases h
    · rename_i n el q1 q2 q3 ie h1 h2
      split at h
      · rename_i ti h3
        split at h
        · rename_i cs h4
          split at h
          · rename_i j h5
            replace h := bif_some' h
            obtain ⟨h6, h⟩ := h
            simp only [Bool.and_eq_true] at h6
            simp only [Option.some.injEq] at h; subst h
            exact step_aelem ha hr him hop h1 h2 h3 h4 (natOf_den h5) (by simpa using h6.1) (fun i v hv => by simpa using hv) hq
          · cases hc : (eqN ti.sz 1 && eqN cs.length n) with
            | true =>
              rw [hc] at h
              simp only [cond_true, Option.some.injEq] at h; subst h
              simp only [Bool.and_eq_true] at hc
              obtain ⟨f, l, gl, gv, g0, g1, g2⟩ := hq
              have e1 := eqN_true hc.1
              have e2 := eqN_true hc.2
              have hlt : ie.den.toNat < cs.length := by omega
              have hlt' : ie.den.toNat < l.length := by omega
              have hve := gv _ _ _ (List.getElem?_eq_getElem hlt) (List.getElem?_eq_getElem hlt')
              have hc1 : cells cs[ie.den.toNat] = [cs[ie.den.toNat]] ∨ True := .inr trivial
              refine YieldTo.rptr hve (g2 _ (List.getElem?_eq_getElem hlt')) (YieldTo.cell1 ha hr him h4 (List.getElem?_eq_getElem hlt) (step_aelem ha hr him hop h1 h2 h3 h4 (n := ie.den.toNat) (by omega) (by omega) (ys := [cs[ie.den.toNat]]) (J := fun v => v = .rptr [cs[ie.den.toNat]]) (fun i v hv => ?_) rfl))
              cases i with
              | zero => simp at hv; subst hv; rw [e1]; simp [hlt]
              | succ i => simp at hv
            | false =>
              rw [hc] at h
              simp only [cond_false] at h
              split at h
              · rename_i ys h5
                simp only [Option.some.injEq] at h; subst h
                obtain ⟨f, l, gl, gv, g0, g1, g2⟩ := hq
                obtain ⟨m1, m2⟩ := chunks_spec h5
                have hlt : ie.den.toNat < ys.length := by omega
                have hlt' : ie.den.toNat < l.length := by omega
                have hve := gv _ _ _ (List.getElem?_eq_getElem hlt) (List.getElem?_eq_getElem hlt')
                exact YieldTo.rptr hve (g2 _ (List.getElem?_eq_getElem hlt')) (step_aelem ha hr him hop h1 h2 h3 h4 (n := ie.den.toNat) (by omega) (by omega) (ys := cells ys[ie.den.toNat]) (J := fun v => v = .rptr (cells ys[ie.den.toNat])) (fun i v hv => m2 _ _ (List.getElem?_eq_getElem hlt) i v hv) rfl)
              · cases h
        · rename_i id off h4
          split at h
          · rename_i j h5
            replace h := bif_some' h
            obtain ⟨h6, h⟩ := h
            simp only [Option.some.injEq] at h; subst h
            exact step_velem ha hr him hop h1 h2 h3 h4 (natOf_den h5) (by simpa using h6) hq
          · simp only [Option.some.injEq] at h; subst h
            obtain ⟨j, h6, h7, hq⟩ := hq
            exact step_velem ha hr him hop h1 h2 h3 h4 h7 (by simpa using h6) hq
        · cases h
      · cases h
    · cases h
  · -- slice
    rename_i t x lo hi hop
    split at h
    · rename_i el q1 q2 q3 h1
      split at h
      · rename_i ti l0 h0 h2 h3 h4
        have hw := res_ra ha hr.toRel him x
        split at h
        · rename_i sz α f l h5
          replace h := bif_some' h
          obtain ⟨h6, h⟩ := h
          have := eqN_true h6
          subst this; simp only [Option.some.injEq] at h; subst h
          rw [h5] at hw
          obtain ⟨v, y, m1, m2, m3⟩ := step_sub ha hr him h1 h2 h3 h4 hop (RA.of_elems hw rfl) (J := J) hq
          exact ⟨v, y, m1, .d _ _ m2, m3⟩
        · cases h
      · cases h
    · rename_i n el q1 q2 q3 h1
      split at h
      · rename_i ti l0 h0 cs h2 h3 h4 h5
        split at h
        · rename_i ys h6
          simp only [Option.some.injEq] at h; subst h
          have hw := res_ra ha hr.toRel him x
          rw [h5] at hw
          obtain ⟨v, m1, α, f, l', m2, m3⟩ := step_subA ha hr him h1 h2 h3 h4 hop (RA.of_rptr hw) h6 hq
          exact ⟨v, _, m1, .d _ _ m2, m3⟩
        · cases h
      · cases h
    · rename_i q1 q2 q3 h1
      split at h
      · rename_i l0 h0 e h3 h4 h5
        simp only [Option.some.injEq] at h; subst h
        obtain ⟨g0, g1, g2, hk⟩ := hq
        have hw := res_ra ha hr.toRel him x
        rw [h5] at hw
        obtain ⟨hv, hlim⟩ := RA.of_str hw
        have hsz : (ByteArray.mk e.den.toArray).size = e.den.length := by simp [ByteArray.size]
        have hrun := fun w' => sliceAtStr_run (P := P) (str_ty hr.tab h1) (s := ⟨e.den.toArray⟩) (loOf_ra ha hr him h3 (n := l0.den.toNat) (by omega)) (hiOf_ra ha hr him h4 (d := .slen e) (m := (ByteArray.mk e.den.toArray).size) (by rw [hsz]; rfl) (n := (h0.getD (.slen e)).den.toNat) (by omega)) (by omega) (by rw [hsz]; omega) w'
        refine ⟨.string ((ByteArray.mk e.den.toArray).extract l0.den.toNat (h0.getD (.slen e)).den.toNat), _, fun w' => by simp only [execOp, hop, Sem.run_bind, hv, hrun, Option.map_none, Result.andThen_ok, Sem.run_pure], .d _ _ (.str _ _ ?_ ?_), hk⟩
        · simp [ByteArray.extract_mk, SE.den]
        · simp only [SE.den, List.length_take, List.length_drop]; omega
      · cases h
    · cases h
  · -- build
    rename_i t parts hop
    split at h
    · rename_i fs q1 q2 zero h1
      split at h
      · rename_i cs h2
        simp only [Option.some.injEq] at h; subst h
        exact step_build_struct ha hr him hop h1 h2 hq
      · cases h
    · rename_i n el q1 q2 zero h1
      split at h
      · rename_i ti h2
        split at h
        · rename_i cs h3
          simp only [Option.some.injEq] at h; subst h
          exact step_build_arr ha hr him hop h1 h2 h3 hq
        · cases h
      · cases h
    · cases h
  · -- index of a text
    rename_i t x y hop
    split at h
    · rename_i q1 q2 q3 e ie h1 h2 h3
      simp only [Option.some.injEq] at h; subst h
      obtain ⟨g0, g1, g2⟩ := hq
      have hx := res_ra ha hr.toRel him x
      rw [h2] at hx
      obtain ⟨hv, hl⟩ := RA.of_str hx
      obtain ⟨k, hy, _⟩ := ieOf_ra (res_ra ha hr.toRel him y) h3
      have hlt : ie.den.toNat < e.den.length := by omega
      have hb : e.den[ie.den.toNat]? = some e.den[ie.den.toNat] := List.getElem?_eq_getElem hlt
      refine ⟨.int .u8 (e.den[ie.den.toNat].toNat : Int), _, fun w' => ?_, ra_int (e := .byte _) rfl ?_, g2 _ hb⟩
      · have hr := run_index_string (P := P) w' t ⟨e.den.toArray⟩ k ie.den (str_ty hr.tab h1)
        have hsz : (⟨e.den.toArray⟩ : ByteArray).size = e.den.length := rfl
        rw [dif_pos ⟨g0, by rw [hsz]; exact g1⟩] at hr
        simp only [execOp, hop, Sem.run_bind, Sem.run_pure, hv, hy, hr, Result.andThen_ok]
        rfl
      · rw [has_iff]
        have := (e.den[ie.den.toNat]).toNat_lt
        simp [lo, hi]; omega
    · cases h
  · cases h

theorem viewOp_sound (ha : a.tmps = tm) (hr : Rl P c z F β s tm w) {im : List (Nat × Bool)} (him : ∀ t b, (t, b) ∈ im → tm.getD t undef = .bool b) {q : (V → Prop) → Prop} (h : viewOp c im op.op s = some q) {J : V → Prop} (hq : q J) : YieldTo P s w F β a op J := by
  unfold viewOp at h
  split at h
  · rename_i t x lo hi hop
    split at h
    · rename_i el q1 q2 q3 h1
      split at h
      · rename_i ti l0 h0 h2 h3 h4
        split at h
        · rename_i id h5
          split at h
          · rename_i fx e sz α f l h6
            replace h := bif_some' h
            obtain ⟨h7, h⟩ := h
            have := eqN_true h7
            subst this; simp only [Option.some.injEq] at h; subst h
            obtain ⟨lo', n, g1, g2, g0, g3, g4, hk⟩ := hq
            obtain ⟨i, hi1⟩ : ∃ i : Nat, l0.den = i := ⟨l0.den.toNat, by omega⟩
            obtain ⟨j, hj1⟩ : ∃ j : Nat, (h0.getD (.len l)).den = j := ⟨(h0.getD (.len l)).den.toNat, by omega⟩
            obtain ⟨ad, cc, e1, e2, e3⟩ := step_oview ha hr him h1 h2 h3 h4 hop h5 h6 hi1 hj1 (by omega) (by omega)
            refine ⟨_, _, e2, ?_, hk⟩
            by_cases hz : j - i = 0
            · rw [hz]
              exact .view0 id fx e ti.sz f l h6 lo' n i (g1.trans hi1) (by rw [g2]; omega) (by omega) _ _
            · rcases e3 with ⟨rfl, _, _⟩ | ⟨b, cur, m1, rfl, m3, m4, m5, m6, m7⟩
              · simp at g4; omega
              · have hne : ¬ cc = i := by omega
                rw [if_neg hne, Option.map_some, Addr.add_at, Nat.zero_add]
                exact .view id b m1 fx e ti.sz f l cc h6 m3 m4 m5 cur m6 m7 lo' n i (j - i) (g1.trans hi1) (by rw [g2]; omega) (by omega) (by omega)
          · cases h
        · cases h
      · cases h
    · cases h
  · cases h

theorem effOp_sound (ha : a.tmps = tm) (hr : Rl P c z F β s tm w) {im : List (Nat × Bool)} (him : ∀ t b, (t, b) ∈ im → tm.getD t undef = .bool b) (h : effOp P c im op s K) : StepTo P c z s tm w a op K := by
  unfold effOp at h
  split at h
  · -- alloc
    rename_i t hop
    split at h
    · rename_i d ti h1 h2
      obtain ⟨h3, h⟩ := bif_true h
      exact step_alloc hr hop h2 (by simpa using h3) h
    · exact h.elim
  · -- box
    rename_i t x hop
    split at h
    · rename_i d cs h1 h2
      obtain ⟨h3, h⟩ := bif_true h
      cases h with
      | own h => exact step_box ha hr him hop h2 (by simpa using h3) h
      | data h =>
        obtain ⟨h4, h⟩ := bif_true h
        exact step_boxd ha hr him hop h2 h4 h
    · exact h.elim
  · -- store
    rename_i t x y hop
    split at h
    · split at h
      · rename_i ti id off vs h1 h2 h3
        split at h
        · rename_i cs h4
          obtain ⟨h5, h⟩ := bif_true h
          simp only [Bool.and_eq_true] at h5
          exact step_store ha hr him hop h1 h2 h3 h4 (eqN_true h5.1) (by simpa using h5.2) h
        · exact h.elim
      · rename_i ti id i off vs h1 h2 h3
        split at h
        · rename_i fx e sz α f l h4
          obtain ⟨h5, h⟩ := bif_true h
          simp only [Bool.and_eq_true] at h5
          exact step_estore ha hr him hop h1 h2 h3 h4 (eqN_true h5.1.1) (by simpa using h5.1.2) h5.2 h
        · exact h.elim
      · exact h.elim
    · rename_i i0 ids _
      split at h
      · rename_i ti id off vs h1 h2
        split at h
        · rename_i cs h4
          obtain ⟨h5, h⟩ := bif_true h
          simp only [Bool.and_eq_true] at h5
          obtain ⟨F1, β1, hr1, hd1, hs1⟩ := Rl.freezes (i0 :: ids) hr (allLow_iff _ h5.1.1)
          obtain ⟨_, hv⟩ := hs1 [res s.e im (evalO c s.e x), res s.e im (evalO c s.e y)] [a.eval x, a.eval y] rfl (fun i u v hi hv => by
            match i, hi, hv with
            | 0, hi, hv => simp at hi hv; subst hi; subst hv; exact res_ra ha hr.toRel him x
            | 1, hi, hv => simp at hi hv; subst hi; subst hv; exact res_ra ha hr.toRel him y
            | i + 2, hi, _ => simp at hi)
          rw [h2] at hv
          exact step_store' hr1 hop h1 (hv 0 _ _ rfl rfl) (hv 1 _ _ rfl rfl) rfl h4 (eqN_true h5.1.2) (by simpa using h5.2) h rfl rfl
        · exact h.elim
      · exact h.elim
  · -- load
    rename_i t x hop
    split at h
    · rename_i ti id i off h1 h2
      split at h
      · rename_i fx e sz α f l h3
        exact step_eload ha hr him hop h1 h2 h3 h
      · exact h.elim
    · exact h.elim
  · -- slice
    rename_i t x lo hi hop
    split at h
    · rename_i el q1 q2 q3 h1
      split at h
      · rename_i ti l0 h0 h2 h3 h4
        split at h
        · rename_i id h5
          split at h
          · rename_i fx e sz α f l h6
            replace h := bif_true h
            obtain ⟨h7, h⟩ := h
            have := eqN_true h7
            subst this
            exact step_subO ha hr him h1 h2 h3 h4 hop h5 h6 h
          · exact h.elim
        · exact h.elim
      · exact h.elim
    · rename_i n el q1 q2 q3 h1
      split at h
      · rename_i ti l0 h0 id off h2 h3 h4 h5
        split at h
        · rename_i cs h6
          split at h
          · rename_i ys h7 h8
            simp only [Bool.and_eq_true, ltN_iff] at h8
            have hw := res_ra ha hr.toRel him x
            rw [h5] at hw
            obtain ⟨F1, β1, g1, g2, g3⟩ := hr.freeze h8.2
            have hfz : fsub s id (.ptr id off) = .rptr (cs.drop off) := by simp [fsub, h6, h8.1, V.sub, sbox]
            have hx := g3 _ _ hw
            rw [hfz] at hx
            obtain ⟨v, m1, α, f, l', m2, m3⟩ := step_subA ha hr him h1 h2 h3 h4 hop (RA.of_rptr hx) h7 h
            exact StepTo.of_run (m1 w) m3 (show Rl P c z F1 β1 (s.after ⟨.sl ti.sz f l', [id], []⟩) tm w from g1) (.d _ _ m2)
          · exact h.elim
        · exact h.elim
      · exact h.elim
    · exact h.elim
  · -- convert
    rename_i sr d x hop
    split at h
    · rename_i el q1 q2 q3 u1 u2 u3 h1 h2
      split at h
      · rename_i v1 v2 v3 h3
        exact step_str ha hr him hop h1 h2 h3 h
      · exact h.elim
    · rename_i q1 q2 q3 el u1 u2 u3 h1 h2
      split at h
      · rename_i v1 v2 v3 e h3 h4
        exact step_bytes ha hr him hop h1 h2 h3 h4 h
      · exact h.elim
    · exact h.elim
  · -- makeSlice
    rename_i t l cp hop
    split at h
    · rename_i d el q1 q2 q3 n h1 h2 h3 h4
      split at h
      · rename_i ti h5
        obtain ⟨h6, h⟩ := bif_true h
        simp only [Bool.and_eq_true] at h6
        refine step_make ha hr him hop h2 h3 ?_ h5 (by simpa using h6.1) h (by simpa using h6.2)
        split at h4
        · left; rw [eqN_true h4]
        · right; exact ⟨_, _, _, rfl, by rw [of_decide_eq_true h4]; rfl⟩
        · cases h4
      · exact h.elim
    · exact h.elim
  · -- buildSlice
    rename_i t n parts hop
    split at h
    · rename_i el q1 q2 q3 xs h1 h2
      split at h
      · rename_i ti h3
        obtain ⟨h4, h⟩ := bif_true h
        simp only [Bool.and_eq_true] at h4
        obtain ⟨⟨⟨⟨⟨g1, g2⟩, g3⟩, g4⟩, g5⟩, g6⟩ := h4
        have hdata := fun h => step_buildSlice (K := K) ha hr him hop h1 h2 h3 (eqN_true g1) g2 g3 g4 (by simpa using g5) (by simpa using g6) h
        split at h
        · rename_i d hd hn0
          cases hlt : ltN d 10000 with
          | false => rw [hlt] at h; exact hdata h
          | true =>
            rw [hlt] at h
            cases h with
            | data h => exact hdata h
            | own f h => exact step_buildEmpty ha hr hop h1 (by rw [eqN_true g1]; exact eqN_true hn0) h2 h3 (eqN_true hn0) (by simpa using hlt) f h
        · rename_i d hd hn0
          cases hlt : (ltN d 10000 && eqN (oslIdsl (xs.map fun x => res s.e im (evalO c s.e x))).length 0) with
          | false => rw [hlt] at h; exact hdata h
          | true =>
            rw [hlt] at h
            simp only [Bool.and_eq_true] at hlt
            have hids : oslIdsl (xs.map fun x => res s.e im (evalO c s.e x)) = [] := List.eq_nil_of_length_eq_zero (eqN_true hlt.2)
            cases h with
            | data h => exact hdata h
            | own f l hl hc hk =>
              rw [hids] at g2 g3 hl hc
              exact step_buildOwn ha hr him hop h1 h2 h3 (eqN_true g1) (by simpa [eqN] using hn0) hids g2 g3 (by simpa using g5) (by simpa using g6) (by simpa using hlt.1) hl hc (hk l rfl)
        · exact hdata h
      · exact h.elim
    · exact h.elim
  · -- append
    rename_i x y t u hop
    split at h
    · rename_i d el q1 q2 q3 h1 h2 h3
      have hk0 := src_kind hr.tab h2 h3
      split at h
      · rename_i ti h4
        obtain ⟨h5, h⟩ := bif_true h
        simp only [Bool.and_eq_true] at h5
        have hby : 0 < ti.bytes := by simpa using h5.2
        cases h with
        | nil q f xs hs hx hb hk =>
          obtain ⟨g1, this⟩ := bif_true (hk xs rfl)
          exact step_append_nil ha hr him hop hk0 h2 h4 (by simpa using g1) (by simpa using h5.1.2) hs hx hb this
        | own f l xs id hs ho hx hb hk =>
          have := hk _ rfl
          rw [hs] at this
          obtain ⟨g1, g2⟩ := bif_true this
          have hlim : l.length + xs.length ≤ LIM := by
            have := Nat.le_mul_of_pos_right (l.length + xs.length) hby
            unfold LIM
            omega
          refine step_append_own ha hr him hop hk0 h2 h4 (by simpa using h5.1.2) hs ho hx hb hlim rfl ?_ g2
          simp only [Bool.or_eq_true, Bool.not_eq_true'] at g1
          rcases g1 with g1 | g1
          · exact .inl (by simpa using g1)
          · refine .inr fun ent he => ?_
            cases hp : pinned ent with
            | false => rfl
            | true => rw [hr.pins id ent he hp] at g1; cases g1
      · exact h.elim
    · exact h.elim
  · -- copy
    rename_i x y t u hop
    split at h
    · rename_i el q1 q2 q3 h1 h2
      have hk0 := src_kind hr.tab h1 h2
      split at h
      · rename_i ti h3
        replace h := bif_true h
        obtain ⟨h4, h⟩ := h
        exact step_copy ha hr him hop hk0 h1 h3 (by simpa using h4) h
      · exact h.elim
    · exact h.elim
  · -- clear
    rename_i x t hop
    split at h
    · rename_i el q1 q2 q3 h1
      split at h
      · rename_i ti h2
        replace h := bif_true h
        obtain ⟨h3, h⟩ := h
        exact step_clear ha hr him hop h1 h2 (by simpa using h3) h
      · exact h.elim
    · exact h.elim
  · -- len of a map
    rename_i x t hop
    split at h
    · rename_i k e q1 q2 q3 id h1 h2
      split at h
      · rename_i f l h3
        exact step_maplen ha hr him hop h1 h2 h3 h
      · exact h.elim
    · exact h.elim
  · -- makeMap
    rename_i t hop
    split at h
    · rename_i d k e q1 q2 q3 h1 h2
      split at h
      · rename_i u1 u2 u3 h3
        obtain ⟨h4, h⟩ := bif_true h
        obtain ⟨f, h⟩ := h
        exact step_makeMap hr hop (by simpa using h4) f h
      · exact h.elim
    · exact h.elim
  · -- lookup
    rename_i t x i ok hop
    split at h
    · rename_i k e q1 q2 q3 h1
      split at h
      · rename_i u1 u2 u3 ti id ie h2 h3 h4 h5
        split at h
        · rename_i f l zz h6 h7
          exact step_lookup ha hr him hop h1 h2 h3 h4 h5 h6 h7 h
        · exact h.elim
      · exact h.elim
    · exact h.elim
  · -- mapUpdate
    rename_i t x i v hop
    split at h
    · rename_i k e q1 q2 q3 h1
      split at h
      · rename_i u1 u2 u3 id ie h2 h3 h4 h5
        split at h
        · rename_i f l h6
          exact step_mapUpdate ha hr him hop h1 h2 h3 h4 h6 h5 h
        · exact h.elim
      · exact h.elim
    · exact h.elim
  · -- call
    rename_i f args ats hop
    split at h
    · rename_i f' first cap h1
      exact step_call ha hr him hop h1 h
    · exact h.elim
  · exact h.elim

theorem stepOp_sound (ha : a.tmps = tm) (hr : Rl P c z F β s tm w) {im : List (Nat × Bool)} (him : ∀ t b, (t, b) ∈ im → tm.getD t undef = .bool b) (h : stepOp P c im op s K) : StepTo P c z s tm w a op K := by
  unfold stepOp at h
  split at h
  · rename_i v hv
    obtain ⟨val, hy, hra⟩ := pure_run ha hr.toRel him hv
    exact StepTo.of_run hy h hr hra
  · split at h
    · rename_i q hq
      exact (semiOp_sound ha hr him hq h).step hr
    · exact effOp_sound ha hr him h

end
end Go.Vg
/- Operations one behind the other. -/
namespace Go.Vg
open Go

def nthO : List Oper → Nat → Option Oper
  | [], _ => none
  | x :: r, n => match n with
    | 0 => some x
    | n + 1 => nthO r n
theorem nthO_eq (l : List Oper) (n : Nat) : nthO l n = l[n]? := by
  induction l generalizing n with
  | nil => simp [nthO]
  | cons a r ih => cases n <;> simp [nthO, ih]
def gslot (all : List Oper) (g : Nat) : Option Tmp :=
  match nthO all g with
  | some o => o.dst
  | none => none
def setR (s : St) (t : Nat) (v : V) : St := ⟨putR s.e t v, s.o, s.t⟩
def dstIs (d : Option Tmp) (t : Nat) : Bool :=
  match d with
  | some d => (eqN d t)
  | none => false

/-- An operation under a guard of which is known what it holds ('gv'). -/
def runG (c : Ctx) (o : Oper) (t : Nat) (want : Bool) (im0 : List (Nat × Bool)) (go : List (Nat × Bool) → St → Prop) (pu : V → St → Prop) (sk : St → Prop) (s : St) (gv : V) : Prop :=
  match gv with
  | .bool (.lit b) => cnd (b == want) (fun _ => go ((t, want) :: im0) s) (fun _ => sk s)
  | .bool q => match pureV c s.e s.o ((t, want) :: im0) o.op with
    | some v => pu v s
    | none => Branch q
      (fun _ => let s' := setR s t (.bool (.lit true)); cnd want (fun _ => go ((t, want) :: im0) s') (fun _ => sk s'))
      (fun _ => let s' := setR s t (.bool (.lit false)); cnd want (fun _ => sk s') (fun _ => go ((t, want) :: im0) s'))
  | _ => False
/-- The same where the guard itself stands under a guard. -/
def runGG (c : Ctx) (o : Oper) (t : Nat) (want : Bool) (go : List (Nat × Bool) → St → Prop) (pu : V → St → Prop) (sk : St → Prop) (s : St) : Prop :=
  match look s.e t with
  | .opt t' b' v => bif dstIs o.dst t' then False else match look s.e t' with
    | .bool (.lit b) => cnd (b == b') (fun _ => runG c o t want [(t', b')] go pu sk (setR s t v) v) (fun _ => sk s)
    | .bool q => match pureV c s.e s.o [(t, want), (t', b')] o.op with
      | some x => pu x s
      | none => Branch q
        (fun _ => let s' := setR s t' (.bool (.lit true)); cnd b' (fun _ => runG c o t want [(t', b')] go pu sk (setR s' t v) v) (fun _ => sk s'))
        (fun _ => let s' := setR s t' (.bool (.lit false)); cnd b' (fun _ => sk s') (fun _ => runG c o t want [(t', b')] go pu sk (setR s' t v) v))
    | _ => False
  | v => runG c o t want [] go pu sk s v

def runOps (P : Program) (c : Ctx) (all : List Oper) : List Oper → St → (St → Prop) → Prop
  | [], s, K => K s
  | o :: r, s, K => pz (six r) fun _ => match o.guard with
    | none => stepOp P c [] o s fun out => runOps P c all r (putO c.N (s.after out) o.dst out.v) K
    | some (g, want) => match gslot all g with
      | some t => bif dstIs o.dst t then False else
        runGG c o t want (fun im s => stepOp P c im o s (fun out => runOps P c all r (putO c.N (s.after out) o.dst out.v) K))
          (fun v s => runOps P c all r (putO c.N s o.dst (.opt t want v)) K) (fun s => runOps P c all r (putO c.N s o.dst (.opt t want .junk)) K) s
      | none => False

section
variable {P : Program} {c : Ctx} {z : From} {F : Nat → Prop} {β : Bt} {s : St} {tm : Array Value} {w : World} {a : Act} {op : Oper} {ops : Array Oper} {Q : Exit → Act → World → Prop}

/-- A slot is set, be the value under a condition. -/
theorem Rl.putRE (hr : Rl P c z F β s tm w) {d : Nat} {val : Value} {x : V} (hx : RE w F β s.o (tm.setIfInBounds d val) val x) : Rl P c z F β (putO c.N s (some d) x) (tm.setIfInBounds d val) w := by
  simp only [putO]
  cases hd : (ltN d c.N) with
  | false =>
    have hN : ¬ d < tm.size := by rw [hr.n]; intro h; rw [show (ltN d c.N) = true from ltN_iff.2 h] at hd; cases hd
    have : tm.setIfInBounds d val = tm := by rw [Array.setIfInBounds, dif_neg hN]
    simp only [cond_false, this]
    exact hr
  | true =>
    have hN : d < tm.size := by rw [hr.n]; simpa using hd
    simp only [cond_true]
    refine { hr with n := by simp [hr.n], env := fun t => ?_, own := hr.own, fresh := hr.fresh, hold := hr.hold, nw := hr.nw }
    simp only [look_put]
    by_cases e : t = d
    · subst e
      have : (tm.setIfInBounds t val).getD t undef = val := by simp [hN]
      simp only [if_true, this]
      exact hx
    · have : (tm.setIfInBounds d val).getD t undef = tm.getD t undef := by simp [Array.getElem?_setIfInBounds_ne (Ne.symm e)]
      simp only [e, if_false, this]
      exact (hr.env t).killOpt

/-- A truth is known now. -/
theorem Rl.setLit (hr : Rl P c z F β s tm w) {t : Nat} {q : BE} (ht : look s.e t = .bool q) {b : Bool} (hb : q.den = b) : Rl P c z F β (setR s t (.bool (.lit b))) tm w := by
  refine { hr with env := fun t' => ?_, own := hr.own, fresh := hr.fresh, hold := hr.hold, nw := hr.nw }
  simp only [setR, look_putR]
  by_cases e : t' = t
  · subst e
    rw [if_pos rfl]
    have := hr.env t'
    rw [ht] at this
    have := RA.of_bool this
    rw [this, hb]
    exact ra_bool rfl
  · rw [if_neg e]; exact hr.env t'

theorem yielded_iff {g t : Nat} (h : gslot ops.toList g = some t) (tm : Array Value) (want : Bool) : yielded ops tm g = some want ↔ tm.getD t undef = .bool want := by
  have h' : (ops[g]?).bind (·.dst) = some t := by
    unfold gslot at h
    rw [nthO_eq] at h
    split at h
    · rename_i o ho
      have : ops[g]? = some o := by simpa using ho
      simp [this, h]
    · cases h
  unfold yielded
  rw [h']
  simp only [Option.bind_some]
  rcases Nat.lt_or_ge t tm.size with hlt | hlt
  · have h1 : tm[t]? = some tm[t] := Array.getElem?_eq_getElem hlt
    have h2 : tm.getD t undef = tm[t] := by simp [hlt]
    rw [h1, h2]
    cases tm[t] <;> simp
  · have h1 : tm[t]? = none := by simp [hlt]
    have h2 : tm.getD t undef = undef := by simp [h1]
    rw [h1, h2]
    simp [undef]

theorem wanted_none {o : Oper} (h : o.guard = none) (y : Nat → Option Bool) : Region.wanted o y = true := by unfold Region.wanted; rw [h]
theorem wanted_some {o : Oper} {g : Nat} {want : Bool} (h : o.guard = some (g, want)) {t : Nat} (hg : gslot ops.toList g = some t) (tm : Array Value) : Region.wanted o (yielded ops tm) = true ↔ tm.getD t undef = .bool want := by
  unfold Region.wanted
  rw [h]
  simp only [beq_iff_eq]
  exact yielded_iff hg tm want

theorem put_defers (a : Act) (d : Option Tmp) (v : Value) : (a.put d v).defers = a.defers := by cases d <;> rfl
theorem put_tmps (a : Act) (d : Nat) (v : Value) : (a.put (some d) v).tmps = a.tmps.setIfInBounds d v := rfl

/-- An operation that is not wanted. -/
theorem Rl.skip (hr : Rl P c z F β s a.tmps w) {t : Nat} {want : Bool} (hn : a.tmps.getD t undef ≠ .bool want) (d : Option Tmp) (hd : dstIs d t = false) (v : V) : Rl P c z F β (putO c.N s d (.opt t want v)) (a.put d undef).tmps w := by
  cases d with
  | none => exact hr
  | some d =>
    rw [put_tmps]
    refine hr.putRE ?_
    simp only [dstIs] at hd
    have hne : d ≠ t := fun e => by subst e; simp at hd
    have : (a.tmps.setIfInBounds d undef).getD t undef = a.tmps.getD t undef := by simp [Array.getElem?_setIfInBounds_ne hne]
    exact .inr ⟨by rw [this]; exact hn, rfl⟩

theorem Rl.when (hr : Rl P c z F β s a.tmps w) {t : Nat} {want : Bool} (hn : a.tmps.getD t undef = .bool want) (d : Option Tmp) (hd : dstIs d t = false) {val : Value} {v : V} (hv : RA w F β s.o val v) : Rl P c z F β (putO c.N s d (.opt t want v)) (a.put d val).tmps w := by
  cases d with
  | none => exact hr
  | some d =>
    rw [put_tmps]
    refine hr.putRE ?_
    simp only [dstIs] at hd
    have hne : d ≠ t := fun e => by subst e; simp at hd
    have : (a.tmps.setIfInBounds d val).getD t undef = a.tmps.getD t undef := by simp [Array.getElem?_setIfInBounds_ne hne]
    exact .inl ⟨by rw [this]; exact hn, hv⟩

/-- A guard that was asked for under another is what it is told where that one holds. -/
theorem Rl.setV (hr : Rl P c z F β s tm w) {t : Nat} {v : V} (hv : RA w F β s.o (tm.getD t undef) v) (h1 : ∀ t b x, v ≠ .opt t b x) (h2 : ∀ b, v ≠ .nb b) : Rl P c z F β (setR s t v) tm w := by
  refine { hr with env := fun t' => ?_, own := hr.own, fresh := hr.fresh, hold := hr.hold, nw := hr.nw }
  simp only [setR, look_putR]
  by_cases e : t' = t
  · subst e
    rw [if_pos rfl]
    cases v <;> first | exact hv | exact absurd rfl (h1 _ _ _) | exact absurd rfl (h2 _)
  · rw [if_neg e]; exact hr.env t'

theorem runG_sound {o : Oper} {t : Nat} {want : Bool} {im0 : List (Nat × Bool)} {go : List (Nat × Bool) → St → Prop} {pu : V → St → Prop} {sk : St → Prop} {gv : V} {G : Prop}
    (hr : Rl P c z F β s a.tmps w) (hgv : RA w F β s.o (a.tmps.getD t undef) gv) (hs : gv = look s.e t) (him : a.tmps.getD t undef = .bool want → ∀ t b, (t, b) ∈ im0 → a.tmps.getD t undef = .bool b)
    (hgo : ∀ im s, Rl P c z F β s a.tmps w → a.tmps.getD t undef = .bool want → (∀ t b, (t, b) ∈ im → a.tmps.getD t undef = .bool b) → go im s → G)
    (hpu : ∀ x, pu x s → (a.tmps.getD t undef = .bool want → ∃ val, Yields P a o w val ∧ RA w F β s.o val x) → G)
    (hsk : ∀ s, Rl P c z F β s a.tmps w → a.tmps.getD t undef ≠ .bool want → sk s → G)
    (h : runG c o t want im0 go pu sk s gv) : G := by
  have him' : a.tmps.getD t undef = .bool want → ∀ t' b, (t', b) ∈ (t, want) :: im0 → a.tmps.getD t' undef = .bool b := fun hw t' b hm => by
    rcases List.mem_cons.1 hm with e | e
    · cases e; exact hw
    · exact him hw t' b e
  unfold runG at h
  simp only [cnd_eq] at h
  split at h
  · rename_i b
    have h1 : a.tmps.getD t undef = .bool b := RA.of_bool hgv
    cases hbw : (b == want) with
    | true =>
      simp only [hbw, cond_true] at h
      simp only [beq_iff_eq] at hbw; subst hbw
      exact hgo _ _ hr h1 (him' h1) h
    | false =>
      simp only [hbw, cond_false] at h
      exact hsk _ hr (by rw [h1]; intro e; cases e; simp at hbw) h
  · rename_i q hq0
    have hqt := RA.of_bool hgv
    split at h
    · rename_i v hv
      exact hpu v h fun hw => by
        obtain ⟨val, hy, hra⟩ := pure_run rfl hr.toRel (him' hw) hv
        exact ⟨val, hy, hra⟩
    · obtain ⟨hT, hF⟩ := h
      cases hden : q.den with
      | true =>
        have h := hT hden
        have hr' := hr.setLit hs.symm hden
        have h1 : a.tmps.getD t undef = .bool true := by rw [hqt, hden]
        cases want with
        | true => simp only [cond_true] at h; exact hgo _ _ hr' h1 (him' h1) h
        | false => simp only [cond_false] at h; exact hsk _ hr' (by rw [h1]; simp) h
      | false =>
        have h := hF hden
        have hr' := hr.setLit hs.symm hden
        have h1 : a.tmps.getD t undef = .bool false := by rw [hqt, hden]
        cases want with
        | false => simp only [cond_false] at h; exact hgo _ _ hr' h1 (him' h1) h
        | true => simp only [cond_true] at h; exact hsk _ hr' (by rw [h1]; simp) h
  · exact h.elim

theorem runG_plain {o : Oper} {t : Nat} {want : Bool} {im0 : List (Nat × Bool)} {go : List (Nat × Bool) → St → Prop} {pu : V → St → Prop} {sk : St → Prop} {s : St} {gv : V} (h : runG c o t want im0 go pu sk s gv) : (∀ t b x, gv ≠ .opt t b x) ∧ ∀ b, gv ≠ .nb b := by
  cases gv <;> first | (refine ⟨fun _ _ _ e => ?_, fun _ e => ?_⟩ <;> cases e; done) | exact (show False from h).elim

theorem runGG_sound {o : Oper} {t : Nat} {want : Bool} {go : List (Nat × Bool) → St → Prop} {pu : V → St → Prop} {sk : St → Prop} {G : Prop}
    (hr : Rl P c z F β s a.tmps w)
    (hgo : ∀ im s, Rl P c z F β s a.tmps w → a.tmps.getD t undef = .bool want → (∀ t b, (t, b) ∈ im → a.tmps.getD t undef = .bool b) → go im s → G)
    (hpu : ∀ x s, Rl P c z F β s a.tmps w → pu x s → (a.tmps.getD t undef = .bool want → ∃ val, Yields P a o w val ∧ RA w F β s.o val x) → G)
    (hsk : ∀ s, Rl P c z F β s a.tmps w → a.tmps.getD t undef ≠ .bool want → sk s → G)
    (h : runGG c o t want go pu sk s) : G := by
  have hlook : ∀ (s : St) (t : Nat) (v : V), look (setR s t v).e t = v := fun s t v => by simp [setR, look_putR]
  have henv := hr.env t
  unfold runGG at h
  simp only [cnd_eq] at h
  split at h
  · rename_i t' b' v hv
    rw [hv] at henv
    cases hd : dstIs o.dst t' with
    | true => rw [hd] at h; exact h.elim
    | false =>
    rw [hd] at h
    simp only [cond_false] at h
    have off : a.tmps.getD t' undef ≠ .bool b' → a.tmps.getD t undef ≠ .bool want := fun hn => by
      rcases henv with ⟨h1, _⟩ | ⟨_, h2⟩
      · exact absurd h1 hn
      · rw [h2]; simp [undef]
    have on : a.tmps.getD t' undef = .bool b' → RA w F β s.o (a.tmps.getD t undef) v := fun hy => by
      rcases henv with ⟨_, h2⟩ | ⟨h1, _⟩
      · exact h2
      · exact absurd hy h1
    have run : ∀ (s1 : St), s1.o = s.o → Rl P c z F β s1 a.tmps w → a.tmps.getD t' undef = .bool b' → runG c o t want [(t', b')] go pu sk (setR s1 t v) v → G := fun s1 ho hr1 hy h => by
      have hg := runG_plain h
      have hv1 : RA w F β s1.o (a.tmps.getD t undef) v := by rw [ho]; exact on hy
      have hr2 := hr1.setV hv1 hg.1 hg.2
      exact runG_sound hr2 hv1 (hlook s1 t v).symm (fun _ t b hm => by simp only [List.mem_singleton, Prod.mk.injEq] at hm; obtain ⟨rfl, rfl⟩ := hm; exact hy) hgo (fun x hx => hpu x _ hr2 hx) hsk h
    split at h
    · rename_i b hb
      have h1 := look_lit hr.toRel hb
      cases hbw : (b == b') with
      | true =>
        simp only [hbw, cond_true] at h
        simp only [beq_iff_eq] at hbw; subst hbw
        exact run s rfl hr h1 h
      | false =>
        simp only [hbw, cond_false] at h
        exact hsk _ hr (off (by rw [h1]; intro e; cases e; simp at hbw)) h
    · rename_i q hq0 hq1
      have hqt := hr.env t'
      rw [hq1] at hqt
      have hqt := RA.of_bool hqt
      split at h
      · rename_i x hx
        exact hpu x s hr h fun hw => by
          obtain ⟨val, hy, hra⟩ := pure_run rfl hr.toRel (im := [(t, want), (t', b')]) (fun t1 b1 hm => by
            simp only [List.mem_cons, Prod.mk.injEq, List.not_mem_nil, or_false] at hm
            rcases hm with ⟨rfl, rfl⟩ | ⟨rfl, rfl⟩
            · exact hw
            · rcases Classical.em (a.tmps.getD t1 undef = .bool b1) with e | e
              · exact e
              · exact absurd hw (off e)) hx
          exact ⟨val, hy, hra⟩
      · obtain ⟨hT, hF⟩ := h
        cases hden : q.den with
        | true =>
          have h := hT hden
          have hr' := hr.setLit hq1 hden
          have h1 : a.tmps.getD t' undef = .bool true := by rw [hqt, hden]
          cases b' with
          | true => simp only [cond_true] at h; exact run (setR s t' _) rfl hr' h1 h
          | false => simp only [cond_false] at h; exact hsk _ hr' (off (by rw [h1]; simp)) h
        | false =>
          have h := hF hden
          have hr' := hr.setLit hq1 hden
          have h1 : a.tmps.getD t' undef = .bool false := by rw [hqt, hden]
          cases b' with
          | false => simp only [cond_false] at h; exact run (setR s t' _) rfl hr' h1 h
          | true => simp only [cond_true] at h; exact hsk _ hr' (off (by rw [h1]; simp)) h
    · exact h.elim
  · have hg := runG_plain h
    exact runG_sound hr (henv.ra hg.1 hg.2) rfl (by simp) hgo (fun x hx => hpu x s hr hx) hsk h

theorem runOps_sound : ∀ (l : List Oper) {s : St} {a : Act} {w : World} {F : Nat → Prop} {β : Bt} {K : St → Prop}, runOps P c ops.toList l s K → Rl P c z F β s a.tmps w →
    (∀ s' F' β' a' w', K s' → Rl P c z F' β' s' a'.tmps w' → a'.defers = a.defers → Q .normal a' w') → wpList P ops Q l a w
  | [], s, a, w, F, β, K, h, hr, hq => hq _ _ _ _ _ h hr rfl
  | o :: r, s, a, w, F, β, K, h, hr, hq => by
    -- a wanted operation
    have want : ∀ (im : List (Nat × Bool)) (s : St), (∀ t b, (t, b) ∈ im → a.tmps.getD t undef = .bool b) → Rl P c z F β s a.tmps w → stepOp P c im o s (fun out => runOps P c ops.toList r (putO c.N (s.after out) o.dst out.v) K) → o.wp P a w (wpList P ops Q r) Q := fun im s him hr h =>
      stepOp_sound (K := fun out => runOps P c ops.toList r (putO c.N (s.after out) o.dst out.v) K) rfl hr him h _ _ fun out F' β' val w' hk hr' hv =>
        runOps_sound r hk (hr'.put o.dst hv a rfl) fun s' F' β' a' w' h1 h2 h3 => hq s' F' β' a' w' h1 h2 (h3.trans (put_defers _ _ _))
    have skip : ∀ (s : St) (v : V) (t : Nat) (wt : Bool), Rl P c z F β s a.tmps w → a.tmps.getD t undef ≠ .bool wt → dstIs o.dst t = false → runOps P c ops.toList r (putO c.N s o.dst (.opt t wt v)) K → wpList P ops Q r (a.put o.dst undef) w := fun s v t wt hr hn hd h =>
      runOps_sound r h (hr.skip hn o.dst hd v) fun s' F' β' a' w' h1 h2 h3 => hq s' F' β' a' w' h1 h2 (h3.trans (put_defers _ _ _))
    simp only [runOps] at h
    replace h := pz_go h
    simp only [wpList]
    split at h
    · rename_i hg
      rw [if_pos (wanted_none hg _)]
      exact .inl (want [] s (by simp) hr h)
    · rename_i g wt hg
      split at h
      · rename_i t ht
        have hw := fun tm => wanted_some hg ht tm
        cases hd : dstIs o.dst t with
        | true => rw [hd] at h; exact h.elim
        | false =>
        rw [hd] at h
        simp only [cond_false] at h
        refine runGG_sound hr (fun im s1 hr1 hy him h => ?_) (fun x s1 hr1 h hv => ?_) (fun s1 hr1 hn h => ?_) h
        · rw [if_pos ((hw _).2 hy)]
          exact .inl (want im s1 him hr1 h)
        · by_cases hn : a.tmps.getD t undef = .bool wt
          · rw [if_pos ((hw _).2 hn)]
            refine .inl ?_
            obtain ⟨val, hy, hra⟩ := hv hn
            unfold Oper.wp
            rw [show (execOp a.eval o).run P w = .ok (.value val) w from hy]
            exact runOps_sound r h (hr1.when hn o.dst hd hra) fun s' F' β' a' w' h1 h2 h3 => hq s' F' β' a' w' h1 h2 (h3.trans (put_defers _ _ _))
          · rw [if_neg (fun e => hn ((hw _).1 e))]
            exact skip s1 x t wt hr1 hn hd h
        · rw [if_neg (fun e => hn ((hw _).1 e))]
          exact skip s1 _ t wt hr1 hn hd h
      · exact h.elim

end
end Go.Vg
/- Operations in any order. -/
namespace Go.Vg
open Go

def memT (T : Option (List Nat)) (id : Nat) : Bool :=
  match T with
  | none => true
  | some l => memN l id
def subT (T : Option (List Nat)) : List Nat → Bool
  | [] => true
  | x :: r => memT T x && subT T r
theorem subT_mem {T : Option (List Nat)} {l : List Nat} (h : subT T l = true) {id : Nat} (hm : memT T id = false) : memN l id = false := by
  induction l with
  | nil => rfl
  | cons a r ih =>
    simp only [subT, Bool.and_eq_true] at h
    simp only [memN, ih h.2, Bool.or_false]
    cases ha : (eqN a id) with
    | false => rfl
    | true => rw [eqN_true ha] at h; rw [h.1] at hm; cases hm

def bindsV (e : Edge) : Bool :=
  match e.ground with
  | .textOnly _ => false
  | .gcOnly _ => false
  | _ => true
theorem bindsV_eq (e : Edge) : Region.binds .any e = bindsV e := by
  unfold Region.binds bindsV
  cases e.ground <;> rfl
def edgesOk (ls : List Nat) : List Edge → Bool
  | [] => true
  | e :: r => (!(bindsV e) || memN ls e.on) && edgesOk ls r
def readyV (ls : List Nat) : Nat → List Oper → List Nat
  | _, [] => []
  | i, o :: r => bif !(memN ls i) && edgesOk ls o.after.toList then i :: readyV ls (i + 1) r else readyV ls (i + 1) r

def opTmps : List Operand → List Nat
  | [] => []
  | .tmp t :: r => t :: opTmps r
  | _ :: r => opTmps r
def looksV (all : List Oper) (o : Oper) : List Nat :=
  opTmps o.op.operands.toList ++ (match o.guard with
    | some (g, _) => match gslot all g with
      | some t => [t]
      | none => []
    | none => [])
def edgeTo (i : Nat) : List Edge → Bool
  | [] => false
  | e :: r => (bindsV e && (eqN e.on i)) || edgeTo i r
def apartV (all : List Oper) (x y : Oper) : Bool :=
  (match x.dst with
   | some d => !(memN (looksV all y) d) && (match y.dst with
     | some d' => !((eqN d' d))
     | none => true)
   | none => true) &&
  (match y.dst with
   | some d => !(memN (looksV all x) d)
   | none => true)
def freeOne (all : List Oper) (i : Nat) (o : Oper) : Nat → List Oper → Bool
  | _, [] => true
  | j, p :: r => (edgeTo i p.after.toList || edgeTo j o.after.toList || apartV all o p) && freeOne all i o (j + 1) r
def freeAll (all : List Oper) : Nat → List Oper → Bool
  | _, [] => true
  | i, o :: r => freeOne all i o (i + 1) r && freeAll all (i + 1) r
def noSel : List Oper → Bool
  | [] => true
  | o :: r => (match o.op with
    | .select _ _ => false
    | _ => true) && noSel r

def loadOk (c : Ctx) (T : Option (List Nat)) (im : List (Nat × Bool)) (op : Op) (s : St) : Bool :=
  match op with
  | .load _ x => match res s.e im (evalO c s.e x) with
    | .ptr id _ => !(memT T id)
    | _ => true
  | _ => true
/-- A cell of an own list that nobody turns is read. -/
def eldOp (c : Ctx) (T : Option (List Nat)) (im : List (Nat × Bool)) (op : Op) (s : St) : Option ((V → Prop) → Prop) :=
  match op with
  | .load t x => match tlook c.T t, res s.e im (evalO c s.e x) with
    | some ti, .eptr id i off => bif memT T id then none else (match olook s.o id with
      | some (.arr _ _ _ f l) => some (fun J => EloadP f l i (fun p => match loadX ti ((cells (f p)).drop off) with
        | some v => J v
        | none => False))
      | _ => none)
    | _, _ => none
  | _ => none
/-- Is this slot copied from, or to? -/
def copied (d : Option Tmp) : List Oper → Bool
  | [] => false
  | o :: r => (match o.op with
    | .call ⟨.builtin .copy, ⟨[.tmp x, .tmp y]⟩, _⟩ => dstIs d x || dstIs d y
    | _ => false) || copied d r
def tryE (c : Ctx) (all : List Oper) (T : Option (List Nat)) (im : List (Nat × Bool)) (o : Oper) (s : St) (J : V → Prop) : Option Prop :=
  match pureV c s.e s.o im o.op with
  | some v => cnd (loadOk c T im o.op s) (fun _ => some (J v)) (fun _ => none)
  | none => match semiOp c im o.op s with
    | some q => some (q J)
    | none => match eldOp c T im o.op s with
      | some q => some (q J)
      | none => bif copied o.dst all then (match viewOp c im o.op s with
        | some q => some (q J)
        | none => none) else none
/-- Is it known that this guard is off? -/
def offL : Nat → Env → Nat → Bool → Bool
  | 0, _, _, _ => false
  | n + 1, e, t, want => match look e t with
    | .bool (.lit b) => !(b == want)
    | .opt t' b' _ => offL n e t' b'
    | _ => false
def takeE (c : Ctx) (all : List Oper) (T : Option (List Nat)) (o : Oper) (s : St) (k : St → Prop) : Option Prop :=
  match o.guard with
  | none => tryE c all T [] o s fun v => k (putO c.N s o.dst v)
  | some (g, want) => match gslot all g with
    | some t => bif dstIs o.dst t then none else match look s.e t with
      | .bool (.lit b) => cnd (b == want) (fun _ => tryE c all T [(t, want)] o s (fun v => k (putO c.N s o.dst v))) (fun _ => some (k (putO c.N s o.dst (.opt t want .junk))))
      | .bool _ => match pureV c s.e s.o [(t, want)] o.op with
        | some v => cnd (loadOk c T [(t, want)] o.op s) (fun _ => some (k (putO c.N s o.dst (.opt t want v)))) (fun _ => none)
        | none => none
      | .opt t' b' _ => bif dstIs o.dst t' then none else cnd (offL 8 s.e t' b') (fun _ => some (k (putO c.N s o.dst (.opt t want .junk)))) (fun _ => match pureV c s.e s.o [(t, want), (t', b')] o.op with
        | some v => cnd (loadOk c T [(t, want), (t', b')] o.op s) (fun _ => some (k (putO c.N s o.dst (.opt t want v)))) (fun _ => none)
        | none => none)
      | _ => none
    | none => none
def pickE (c : Ctx) (all : List Oper) (T : Option (List Nat)) (s : St) (k : Nat → St → Prop) : List Nat → Option Prop
  | [] => none
  | i :: r => match nthO all i with
    | some o => match takeE c all T o s (k i) with
      | some p => some p
      | none => pickE c all T s k r
    | none => none

def afterE (c : Ctx) (T : Option (List Nat)) (o : Oper) (k : St → Prop) (v : V) (s' : St) : Prop := cnd (subT T s'.t) (fun _ => k (putO c.N ⟨s'.e, s'.o, []⟩ o.dst v)) (fun _ => False)
def effE (P : Program) (c : Ctx) (T : Option (List Nat)) (im : List (Nat × Bool)) (o : Oper) (s : St) (k : St → Prop) : Prop :=
  stepOp P c im o s fun out => afterE c T o k out.v (s.after out)
def effG (P : Program) (c : Ctx) (T : Option (List Nat)) (o : Oper) (t : Nat) (want : Bool) (im0 : List (Nat × Bool)) (s : St) (gv : V) (k : St → Prop) : Prop :=
  match gv with
  | .bool (.lit b) => cnd (b == want) (fun _ => effE P c T ((t, want) :: im0) o s k) (fun _ => k (putO c.N s o.dst (.opt t want .junk)))
  | .bool q => Branch q
      (fun _ => let s' := setR s t (.bool (.lit true)); cnd want (fun _ => effE P c T ((t, want) :: im0) o s' k) (fun _ => k (putO c.N s' o.dst (.opt t want .junk))))
      (fun _ => let s' := setR s t (.bool (.lit false)); cnd want (fun _ => k (putO c.N s' o.dst (.opt t want .junk))) (fun _ => effE P c T ((t, want) :: im0) o s' k))
  | _ => False
def effS (P : Program) (c : Ctx) (all : List Oper) (T : Option (List Nat)) (o : Oper) (s : St) (k : St → Prop) : Prop :=
  match o.guard with
  | none => effE P c T [] o s k
  | some (g, want) => match gslot all g with
    | some t => bif dstIs o.dst t then False else match look s.e t with
      | .opt t' b' v => bif dstIs o.dst t' then False else match look s.e t' with
        | .bool (.lit b) => cnd (b == b') (fun _ => effG P c T o t want [(t', b')] (setR s t v) v k) (fun _ => k (putO c.N s o.dst (.opt t want .junk)))
        | .bool q => Branch q
          (fun _ => let s' := setR s t' (.bool (.lit true)); cnd b' (fun _ => effG P c T o t want [(t', b')] (setR s' t v) v k) (fun _ => k (putO c.N s' o.dst (.opt t want .junk))))
          (fun _ => let s' := setR s t' (.bool (.lit false)); cnd b' (fun _ => k (putO c.N s' o.dst (.opt t want .junk))) (fun _ => effG P c T o t want [(t', b')] (setR s' t v) v k))
        | _ => False
      | v => effG P c T o t want [] s v k
    | none => False
def allE (P : Program) (c : Ctx) (all : List Oper) (T : Option (List Nat)) (s : St) (k : Nat → St → Prop) : List Nat → Prop
  | [] => True
  | [i] => match nthO all i with
    | some o => effS P c all T o s (k i)
    | none => False
  | i :: r => (match nthO all i with
    | some o => effS P c all T o s (k i)
    | none => False) ∧ allE P c all T s k r
def plainV : V → Bool
  | .opt _ _ _ => false
  | .nb _ => false
  | _ => true
/-- What a slot holds is told apart. -/
def tell1 (t : Nat) (s : St) (k : St → Prop) : Prop :=
  match look s.e t with
  | .bool (.lit _) => k s
  | .bool q => Branch q (fun _ => k (setR s t (.bool (.lit true)))) (fun _ => k (setR s t (.bool (.lit false))))
  | .opt t' b' v => cnd (plainV v) (fun _ => match look s.e t' with
    | .bool (.lit b) => cnd (b == b') (fun _ => k (setR s t v)) (fun _ => k s)
    | .bool q => Branch q
        (fun _ => let s' := setR s t' (.bool (.lit true)); cnd b' (fun _ => k (setR s' t v)) (fun _ => k s'))
        (fun _ => let s' := setR s t' (.bool (.lit false)); cnd b' (fun _ => k s') (fun _ => k (setR s' t v)))
    | _ => k s) (fun _ => k s)
  | _ => k s
/-- The slot that it leans on comes first. -/
def tell2 (t : Nat) (s : St) (k : St → Prop) : Prop :=
  match look s.e t with
  | .opt t' _ v => cnd (plainV v) (fun _ => tell1 t' s (fun s => tell1 t s k)) (fun _ => k s)
  | _ => tell1 t s k
/-- What a guard of these operations holds is told apart. -/
def tellG (all : List Oper) : List Nat → St → (St → Prop) → Prop
  | [], s, k => k s
  | i :: r, s, k => match nthO all i with
    | some o => (match o.guard with
      | some (g, _) => (match gslot all g with
        | some t => tell2 t s (fun s => tellG all r s k)
        | none => tellG all r s k)
      | none => tellG all r s k)
    | none => tellG all r s k
def catL : List Nat → List Nat → List Nat
  | [], l => l
  | x :: r, l => x :: catL r l
def runAny (P : Program) (c : Ctx) (all : List Oper) (T : Option (List Nat)) : Nat → List Nat → St → (St → Prop) → Prop
  | 0, ls, s, K => match readyV ls 0 all with
    | [] => K s
    | _ => False
  | n + 1, ls, s, K => pz (six ls) fun _ => match readyV ls 0 all with
    | [] => K s
    | rs => match pickE c all T s (fun i s' => runAny P c all T n (i :: ls) s' K) rs with
      | some p => p
      | none => tellG all (catL rs rs) s fun s => match pickE c all T s (fun i s' => runAny P c all T n (i :: ls) s' K) rs with
        | some p => p
        | none => allE P c all T s (fun i s' => runAny P c all T n (i :: ls) s' K) rs

def runDraw (P : Program) (c : Ctx) (all : List Oper) (s : St) (K : St → Prop) : Prop :=
  Draw (fun b => bif b then noSel all && freeAll all 0 all else false) (fun T b => bif b then runAny P c all T all.length [] ⟨s.e, s.o, []⟩ K else True)

/-! ### That they suffice -/

def Lof (n : Nat) (ls : List Nat) : Array Bool := ((List.range n).map (memN ls)).toArray
theorem Lof_get {n : Nat} {ls : List Nat} {j : Nat} {d : Bool} : (Lof n ls).getD j d = if j < n then memN ls j else d := by
  unfold Lof
  by_cases h : j < n
  · simp [h]
  · simp [h]
theorem Lof_set {n : Nat} {ls : List Nat} {i : Nat} (hi : i < n) : (Lof n ls).setIfInBounds i true = Lof n (i :: ls) := by
  apply Array.ext
  · simp [Lof]
  · intro j h1 h2
    simp only [Lof, Array.size_setIfInBounds, List.size_toArray, List.length_map, List.length_range] at h1
    rw [Array.getElem_setIfInBounds (by simp [Lof, h1])]
    by_cases e : i = j
    · subst e; simp [Lof, memN]
    · have : j < (Lof n ls).size := by simp [Lof, h1]
      simp only [e, if_false]
      simp [Lof, memN, beq_false (Ne.symm e)]
theorem Lof_nil (n : Nat) : Array.replicate n false = Lof n [] := by
  apply Array.ext
  · simp [Lof]
  · intro j h1 h2; simp [Lof, memN]

theorem edgesOk_iff (ls : List Nat) (n : Nat) (l : List Edge) (hls : ∀ x, memN ls x = true → x < n) : edgesOk ls l = l.all (fun e => !Region.binds .any e || (Lof n ls).getD e.on false) := by
  induction l with
  | nil => rfl
  | cons e r ih =>
    simp only [edgesOk, List.all_cons, ih, bindsV_eq, Lof_get]
    congr 2
    by_cases h : e.on < n
    · simp [h]
    · simp only [h, if_false]
      cases hm : memN ls e.on with
      | false => rfl
      | true => exact absurd (hls _ hm) h

theorem readyV_eq {ops : Array Oper} (ls : List Nat) (hls : ∀ x, memN ls x = true → x < ops.size) : ∀ (l : List Oper) (i : Nat), (∀ j, l[j]? = ops[i + j]?) → i + l.length = ops.size →
    readyV ls i l = (List.range' i l.length).filter fun i => !(Lof ops.size ls).getD i true && ((ops[i]?).map (·.after.all fun e => !Region.binds .any e || (Lof ops.size ls).getD e.on false)).getD false := by
  intro l
  induction l with
  | nil => intro i _ _; rfl
  | cons o r ih =>
    intro i h hl
    have h0 : ops[i]? = some o := by simpa using (h 0).symm
    have hi : i < ops.size := (Array.getElem?_eq_some_iff.1 h0).1
    simp only [readyV, List.length_cons, List.range'_succ, List.filter_cons, h0, Option.map_some, Option.getD_some, Lof_get, hi, if_true]
    simp only [Lof_get] at ih
    rw [ih (i + 1) (fun j => by have := h (j + 1); simpa [Nat.add_assoc, Nat.add_comm 1 j] using this) (by simp at hl; omega)]
    have : o.after.all (fun e => !Region.binds .any e || (Lof ops.size ls).getD e.on false) = edgesOk ls o.after.toList := by
      rw [edgesOk_iff ls ops.size _ hls, ← Array.all_toList]
    simp only [Lof_get] at this
    rw [this]
    cases hb : (!memN ls i && edgesOk ls o.after.toList) <;> simp only [cond_true, cond_false, if_true, Bool.false_eq_true, if_false]

theorem ready_eq {ops : Array Oper} (ls : List Nat) (hls : ∀ x, memN ls x = true → x < ops.size) : Region.ready .any ops (Lof ops.size ls) = readyV ls 0 ops.toList := by
  rw [readyV_eq ls hls ops.toList 0 (by simp) (by simp)]
  unfold Region.ready
  rw [List.range_eq_range', Array.length_toList]

theorem opTmps_eq (l : List Operand) : opTmps l = l.filterMap fun | .tmp t => some t | _ => none := by
  induction l with
  | nil => rfl
  | cons a r ih => cases a <;> simp [opTmps, ih]
theorem looksV_eq {ops : Array Oper} (o : Oper) : looksV ops.toList o = o.looksAt ops := by
  unfold looksV Oper.looksAt
  rw [opTmps_eq]
  congr 1
  cases o.guard with
  | none => rfl
  | some gw =>
    obtain ⟨g, wt⟩ := gw
    simp only [gslot, nthO_eq]
    have : ops.toList[g]? = ops[g]? := by simp
    rw [this]
    cases ops[g]? with
    | none => rfl
    | some o => cases ho : o.dst <;> simp [ho]

theorem apartV_eq {ops : Array Oper} (x y : Oper) (h : apartV ops.toList x y = true) : x.apart ops y = true := by
  unfold apartV at h
  unfold Oper.apart
  rw [looksV_eq, looksV_eq] at h
  simp only [Bool.and_eq_true] at h ⊢
  obtain ⟨h1, h2⟩ := h
  refine ⟨?_, ?_⟩
  · cases hx : x.dst with
    | none => rfl
    | some d =>
      rw [hx] at h1
      simp only [Bool.and_eq_true] at h1 ⊢
      refine ⟨?_, ?_⟩
      · have := h1.1
        simp only [Bool.not_eq_true'] at this ⊢
        cases hc : (y.looksAt ops).contains d with
        | false => rfl
        | true => rw [(mem_iff _ _).2 (by simpa using hc)] at this; cases this
      · cases hy : y.dst with
        | none => simp
        | some d' =>
          have := h1.2
          rw [hy] at this
          simp only [Bool.not_eq_true'] at this
          simp only [bne_iff_ne, ne_eq, Option.some.injEq]
          intro e; subst e; simp at this
  · cases hy : y.dst with
    | none => rfl
    | some d =>
      rw [hy] at h2
      simp only [Bool.not_eq_true'] at h2 ⊢
      cases hc : (x.looksAt ops).contains d with
      | false => rfl
      | true => rw [(mem_iff _ _).2 (by simpa using hc)] at h2; cases h2
theorem apart_symm {ops : Array Oper} {x y : Oper} (h : x.apart ops y = true) : y.apart ops x = true := by
  unfold Oper.apart at *
  simp only [Bool.and_eq_true] at h ⊢
  obtain ⟨h1, h2⟩ := h
  refine ⟨?_, ?_⟩
  · cases hy : y.dst with
    | none => rfl
    | some d =>
      rw [hy] at h2
      simp only [Bool.and_eq_true]
      refine ⟨h2, ?_⟩
      cases hx : x.dst with
      | none => simp
      | some d' =>
        rw [hx, hy] at h1
        simp only [Bool.and_eq_true, bne_iff_ne, ne_eq, Option.some.injEq] at h1 ⊢
        exact fun e => h1.2 e.symm
  · cases hx : x.dst with
    | none => rfl
    | some d =>
      rw [hx] at h1
      simp only [Bool.and_eq_true] at h1
      exact h1.1

theorem edgeTo_iff (i : Nat) (l : List Edge) : edgeTo i l = true ↔ ∃ e, e ∈ l ∧ Region.binds .any e = true ∧ e.on = i := by
  induction l with
  | nil => simp [edgeTo]
  | cons e r ih =>
    simp only [edgeTo, Bool.or_eq_true, Bool.and_eq_true, ih, List.mem_cons, bindsV_eq]
    constructor
    · rintro (⟨h1, h2⟩ | ⟨e', h1, h2, h3⟩)
      · exact ⟨e, .inl rfl, h1, eqN_true h2⟩
      · exact ⟨e', .inr h1, h2, h3⟩
    · rintro ⟨e', rfl | h1, h2, h3⟩
      · left; exact ⟨h2, by rw [h3]; simp⟩
      · right; exact ⟨e', h1, h2, h3⟩

theorem freeOne_spec {all : List Oper} {i : Nat} {o : Oper} : ∀ (l : List Oper) (j : Nat), freeOne all i o j l = true → ∀ k p, l[k]? = some p → edgeTo i p.after.toList = true ∨ edgeTo (j + k) o.after.toList = true ∨ apartV all o p = true
  | [], j, h, k, p, hk => by simp at hk
  | q :: r, j, h, k, p, hk => by
    simp only [freeOne, Bool.and_eq_true, Bool.or_eq_true] at h
    cases k with
    | zero => simp at hk; subst hk; rcases h.1 with (h | h) | h <;> simp [h]
    | succ k =>
      have := freeOne_spec r (j + 1) h.2 k p (by simpa using hk)
      rwa [Nat.add_assoc, Nat.add_comm 1 k] at this
theorem freeAll_spec {all : List Oper} : ∀ (l : List Oper) (i : Nat), freeAll all i l = true → ∀ k k' o p, k < k' → l[k]? = some o → l[k']? = some p → edgeTo (i + k) p.after.toList = true ∨ edgeTo (i + k') o.after.toList = true ∨ apartV all o p = true
  | [], i, h, k, k', o, p, hlt, hk, hk' => by simp at hk
  | q :: r, i, h, k, k', o, p, hlt, hk, hk' => by
    simp only [freeAll, Bool.and_eq_true] at h
    cases k' with
    | zero => omega
    | succ k' =>
      cases k with
      | zero =>
        simp at hk; subst hk
        have := freeOne_spec r (i + 1) h.1 k' p (by simpa using hk')
        rwa [Nat.add_assoc, Nat.add_comm 1 k'] at this
      | succ k =>
        have := freeAll_spec r (i + 1) h.2 k k' o p (by omega) (by simpa using hk) (by simpa using hk')
        simpa [Nat.add_assoc, Nat.add_comm 1] using this

theorem noSel_spec {ops : Array Oper} (h : noSel ops.toList = true) (j : Nat) (o : Oper) (cs : Array SelectCase) (b : Bool) (ho : ops[j]? = some o) : o.op ≠ .select cs b := by
  have : ∀ l : List Oper, noSel l = true → ∀ o, o ∈ l → o.op ≠ .select cs b := by
    intro l
    induction l with
    | nil => simp
    | cons a r ih =>
      intro h o ho
      simp only [noSel, Bool.and_eq_true] at h
      rcases List.mem_cons.1 ho with rfl | ho
      · intro e; rw [e] at h; simp at h
      · exact ih h.2 o ho
  exact this _ h o (by simpa using Array.mem_of_getElem? ho)

/-- What operations that may come up are free of. -/
theorem free_of {ops : Array Oper} (h : freeAll ops.toList 0 ops.toList = true) {ls : List Nat} {i : Nat} {oi : Oper} (hi : ops[i]? = some oi) (hr : i ∈ Region.ready .any ops (Lof ops.size ls)) (j : Nat) (oj : Oper) (hj : ops[j]? = some oj) (hne : j ≠ i)
    (hun : (Lof ops.size ls).getD j true = false) (hno : ∀ e ∈ oj.after, Region.binds .any e = true → e.on ≠ i) : oi.apart ops oj = true := by
  obtain ⟨_, o', ho', hall⟩ := mem_ready.1 hr
  rw [hi] at ho'; cases ho'
  have hjlt : j < ops.size := (Array.getElem?_eq_some_iff.1 hj).1
  rw [Lof_get, if_pos hjlt] at hun
  have hno' : edgeTo i oj.after.toList = false := by
    cases hc : edgeTo i oj.after.toList with
    | false => rfl
    | true =>
      obtain ⟨e, h1, h2, h3⟩ := (edgeTo_iff _ _).1 hc
      exact absurd h3 (hno e (by simpa using h1) h2)
  have hno2 : edgeTo j oi.after.toList = false := by
    cases hc : edgeTo j oi.after.toList with
    | false => rfl
    | true =>
      obtain ⟨e, h1, h2, h3⟩ := (edgeTo_iff _ _).1 hc
      have := hall e (by simpa using h1) h2
      rw [h3, Lof_get, if_pos hjlt, hun] at this; cases this
  rcases Nat.lt_or_gt_of_ne hne with hlt | hlt
  · have := freeAll_spec ops.toList 0 h j i oj oi hlt (by simpa using hj) (by simpa using hi)
    rw [Nat.zero_add, Nat.zero_add, hno', hno2] at this
    rcases this with h | h | h
    · cases h
    · cases h
    · exact apart_symm (apartV_eq _ _ h)
  · have := freeAll_spec ops.toList 0 h i j oi oj hlt (by simpa using hi) (by simpa using hj)
    rw [Nat.zero_add, Nat.zero_add, hno', hno2] at this
    rcases this with h | h | h
    · cases h
    · cases h
    · exact apartV_eq _ _ h

end Go.Vg
