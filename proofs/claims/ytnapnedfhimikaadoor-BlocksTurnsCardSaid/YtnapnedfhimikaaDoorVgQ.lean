/- The conditions suffice: any operation. -/
import Derived.Test.YtnapnedfhimikaaDoorVgPe
import Derived.Laws.BytesString
import Derived.Laws.Strings
set_option maxRecDepth 4000
set_option linter.all false
set_option linter.unusedVariables false
set_option linter.unusedSimpArgs false
namespace Go.Vg
open Go

section
variable {P : Program} {c : Ctx} {z : From} {F : Nat → Prop} {β : Bt} {s : St} {tm : Array Value} {w : World} {a : Act} {op : Oper} {K : Out → Prop}

theorem chk_of {b : BE} {k : Unit → Prop} (h : chk b k) : b.den = true ∧ k () := by
  unfold chk at h
  split at h
  · exact ⟨rfl, h⟩
  · exact h.elim
  · exact ⟨h.1, h.2⟩
theorem br_of {b : BE} {t f : Unit → Prop} (h : br b t f) : (b.den = true → t ()) ∧ (b.den = false → f ()) := by
  unfold br at h
  split at h
  · exact ⟨fun _ => h, fun h => by simp [BE.den] at h⟩
  · exact ⟨fun h => by simp [BE.den] at h, fun _ => h⟩
  · exact ⟨h.1, h.2⟩
theorem nthv_get {l : List V} {n : Nat} {x : V} (h : nthv l n = some x) : l[n]? = some x := by
  induction l generalizing n with
  | nil => simp [nthv] at h
  | cons a r ih =>
    cases n with
    | zero => simpa [nthv] using h
    | succ n => simpa [nthv] using ih (by simpa [nthv] using h)
theorem bif_some' {α : Type _} {b : Bool} {x : Option α} {y : α} (h : (bif b then x else none) = some y) : b = true ∧ x = some y := by
  cases b
  · cases h
  · exact ⟨rfl, h⟩

theorem str_ty {T : Tab} (hT : TabOk P T) {t : TypeId} {q1 q2 : Nat} {q3 : List V} (ht : tlook T t = some ⟨.str, q1, q2, q3⟩) : P.underlying t = some .string := by
  obtain ⟨i1, z1, d1, k1, k2, k3, k4⟩ := hT.ok _ _ ht
  cases d1 <;> simp only [TD.of, reduceCtorEq] at k3
  exact k2
theorem int_ty {T : Tab} (hT : TabOk P T) {t : TypeId} {k : IntKind} {q1 q2 : Nat} {q3 : List V} (ht : tlook T t = some ⟨.int k, q1, q2, q3⟩) : P.underlying t = some (.int k) := by
  obtain ⟨i1, z1, d1, k1, k2, k3, k4⟩ := hT.ok _ _ ht
  cases d1 <;> simp only [TD.of, reduceCtorEq, TD.int.injEq] at k3
  rw [k2, k3]
theorem bstr_fold (l : List Int) : ∀ (r : ByteArray), (l.foldl (fun r n => r.push (UInt8.ofNat n.toNat)) r).data.toList = r.data.toList ++ bstr l := by
  induction l with
  | nil => intro r; simp [bstr]
  | cons n l ih => intro r; rw [List.foldl_cons, ih]; simp [bstr]
theorem step_str (ha : a.tmps = tm) (hr : Rl P c z F β s tm w) {im : List (Nat × Bool)} (him : ∀ t b, (t, b) ∈ im → tm.getD t undef = .bool b) {sr d el : TypeId} {x : Operand} {p1 p2 : Nat} {p3 : List V} {q1 q2 : Nat} {q3 : List V} {u1 u2 : Nat} {u3 : List V}
    (hop : op.op = .convert sr d x) (h1 : tlook c.T sr = some ⟨.slice el, p1, p2, p3⟩) (h2 : tlook c.T d = some ⟨.str, q1, q2, q3⟩) (h3 : tlook c.T el = some ⟨.int .u8, u1, u2, u3⟩)
    (hk : StrP s.o (res s.e im (evalO c s.e x)) (fun bs => K ⟨.str (.v bs), [], []⟩)) : StepTo P c z s tm w a op K := by
  obtain ⟨f, xs, hx, hf, hk⟩ := hk
  have hk := hk _ rfl
  have hy := res_ra ha hr.toRel him x
  obtain ⟨ad, cc, e1, e2, e3⟩ := news_cells hr.own hy hx (by decide)
  have hs := slice_ty hr.tab h1
  have he := int_ty hr.tab h3
  have hd := str_ty hr.tab h2
  have hrun : ∃ bs : ByteArray, bs.data.toList = bstr xs ∧ (Conv.bytesToString (.slice ad xs.length cc)).run P w = .ok (.string bs) w := by
    by_cases hxs : xs = []
    · subst hxs
      cases ad with
      | none => exact ⟨.empty, rfl, by simp [Conv.bytesToString, Sem.run_pure]⟩
      | some q =>
        have hl := run_loadCells_list (P := P) w q [] (by simp)
        exact ⟨.empty, rfl, run_bytesToString w q 0 cc [] (by simpa using hl)⟩
    · obtain ⟨b, off, news, rfl, n1, n2, n3, n4⟩ := e3.resolve_left hxs
      have hl := run_loadCells_list (P := P) w ⟨b, off, none⟩ news n2
      have hnews : news = xs.map (Value.int .u8) := by
        refine List.ext_getElem? fun i => ?_
        by_cases hi : i < xs.length
        · obtain ⟨p, hp⟩ : ∃ p, xs[i]? = some p := ⟨_, List.getElem?_eq_getElem hi⟩
          obtain ⟨_, r2⟩ := n4 i p hp
          obtain ⟨cv, s1, s2⟩ := r2 0 (.int .u8 (.v p)) (by rw [hf]; rfl)
          rw [Nat.mul_one, Nat.add_zero] at s1
          rw [s1, List.getElem?_map, hp, (RA.of_int (RA.d (β := β) (o := s.o) _ _ s2)).1]
          rfl
        · rw [List.getElem?_eq_none (by omega), List.getElem?_eq_none (by simp; omega)]
      rw [n1, Nat.mul_one, hnews] at hl
      exact ⟨_, by rw [bstr_fold]; simp, run_bytesToString w _ xs.length cc xs (by simpa using hl)⟩
  obtain ⟨bs, g1, g2⟩ := hrun
  refine StepTo.of_run (val := .string bs) (w' := w) ?_ hk hr (.d _ _ (.str _ _ g1.symm (by simp only [SE.den, bstr, List.length_map]; exact e2)))
  have hc := run_convert_bytes_string w sr d el ad xs.length cc hs he hd
  simp only [execOp, hop, Sem.run_bind, Sem.run_pure, e1, hc, g2, Result.andThen_ok]

theorem semiOp_sound (ha : a.tmps = tm) (hr : Rl P c z F β s tm w) {im : List (Nat × Bool)} (him : ∀ t b, (t, b) ∈ im → tm.getD t undef = .bool b) {q : (V → Prop) → Prop} (h : semiOp c im op.op s = some q) {J : V → Prop} (hq : q J) : YieldTo P s w F β a op J := by
  unfold semiOp at h
  split at h
  · -- binOp
    rename_i o xt x y yt hop
    split at h
    · rename_i q' z' h1
      simp only [Option.some.injEq] at h; subst h
      obtain ⟨g1, hq⟩ := chk_of hq
      obtain ⟨v, h2, h3⟩ := divV_run (P := P) (t := xt) (ox := x) (oy := y) (res_ra ha hr.toRel him x) (res_ra ha hr.toRel him y) h1 g1
      exact ⟨v, _, fun w' => by have h2 := h2 w'; simp only [execOp, hop, Sem.run_bind, Sem.run_pure] at h2 ⊢; rw [h2]; rfl, h3, hq⟩
    · have nil : ∀ {t : TypeId} {el : TypeId} {q1 q2 : Nat} {q3 : List V} {sz : Nat} {α : Type} {f : α → V} {l : List α}, tlook c.T t = some ⟨.slice el, q1, q2, q3⟩ → res s.e im (evalO c s.e x) = .sl sz f l → res s.e im (evalO c s.e y) = .nilsl →
          ∃ b : Bool, (b = true → l = []) ∧ (∀ (op : BinOp) (ox oy : Operand) w', (eqGuard op t ox oy (a.eval x) (a.eval y)).run P w' = .ok () w') ∧ (∀ w', (Go.binOp .eql t (a.eval x) (a.eval y)).run P w' = .ok (.bool b) w') ∧ (∀ w', (Go.binOp .neq t (a.eval x) (a.eval y)).run P w' = .ok (.bool (!b)) w') := by
        intro t el q1 q2 q3 sz α f l ht hx hy
        have h1 := res_ra ha hr.toRel him x
        have h2 := res_ra ha hr.toRel him y
        rw [hx] at h1; rw [hy] at h2
        have hu := slice_ty hr.tab ht
        have h1 := RA.of_elems h1 (rfl : (V.sl sz f l).elems = some (sz, l.map f))
        have h2 := RA.of_nilsl h2
        rw [h2]
        obtain ⟨ad, cc, hv, hn⟩ : ∃ ad cc, a.eval x = .slice ad l.length cc ∧ (ad.isNone = true → l = []) := by
          generalize a.eval x = v at h1
          generalize hz : V.sl sz f l = z' at h1
          cases h1 with
          | nilsl x' sz' hx' => subst hz; simp only [V.elems, Option.some.injEq, Prod.mk.injEq, List.map_eq_nil_iff] at hx'; exact ⟨none, 0, by simp [hx'.2], fun _ => hx'.2⟩
          | slice x' sz' es hx' hnn ad c' hc => subst hz; simp only [V.elems, Option.some.injEq, Prod.mk.injEq] at hx'; obtain ⟨rfl, rfl⟩ := hx'; exact ⟨some ad, c', by simp, fun h => by simp at h⟩
          | _ => cases hz
        rw [hv]
        refine ⟨ad.isNone, hn, fun op ox oy w' => by unfold eqGuard; cases op <;> rfl, fun w' => (eql_slnil (run_equalIn_slice_nil w' 9999 t _ ad _ _ hu)).1, fun w' => (eql_slnil (run_equalIn_slice_nil w' 9999 t _ ad _ _ hu)).2⟩
      split at h
      · rename_i h1 h2 h3 _
        simp only [Option.some.injEq] at h; subst h
        obtain ⟨b, g1, g2, g3, _⟩ := nil h1 h2 h3
        obtain ⟨ht, hf⟩ := hq
        refine ⟨.bool b, .bool (.lit b), fun w' => by simp only [execOp, hop, Sem.run_bind, Sem.run_pure, g2, g3, Result.andThen_ok], ra_bool rfl, ?_⟩
        cases b with
        | true => exact ht (g1 rfl)
        | false => exact hf
      · rename_i h1 h2 h3 _
        simp only [Option.some.injEq] at h; subst h
        obtain ⟨b, g1, g2, _, g3⟩ := nil h1 h2 h3
        obtain ⟨ht, hf⟩ := hq
        refine ⟨.bool (!b), .bool (.lit (!b)), fun w' => by simp only [execOp, hop, Sem.run_bind, Sem.run_pure, g2, g3, Result.andThen_ok], ra_bool rfl, ?_⟩
        cases b with
        | true => exact ht (g1 rfl)
        | false => exact hf
      · cases h
  · -- indexAddr
    rename_i t x y hop
    split at h
    · rename_i el q1 q2 q3 ie h1 h2
      split at h
      · rename_i ti h3
        split at h
        · rename_i sz α f l h4
          replace h := bif_some' h
          obtain ⟨h5, h⟩ := h
          have := eqN_true h5
          subst this; simp only [Option.some.injEq] at h; subst h
          obtain ⟨g0, g1, g2⟩ := hq
          have hlt : ie.den.toNat < l.length := by omega
          have hp : l[ie.den.toNat]? = some l[ie.den.toNat] := List.getElem?_eq_getElem hlt
          have hw := res_ra ha hr.toRel him x
          rw [h4] at hw
          have hwf := (RA.of_elems hw rfl).wf
          simp only [V.wf] at hwf
          exact step_elem ha hr him hop h1 h2 h3 h4 (n := ie.den.toNat) rfl (by omega) (e := f l[ie.den.toNat]) (by simp [hlt]) (g2 _ hp (hwf.2 _ (List.getElem_mem hlt)))
        · rename_i sz vs h4
          replace h := bif_some' h
          obtain ⟨h5, h⟩ := h
          have := eqN_true h5
          subst this
          split at h
          · rename_i n h6
            split at h
            · rename_i v h7
              simp only [Option.some.injEq] at h; subst h
              exact step_elem ha hr him hop h1 h2 h3 h4 rfl (natOf_den h6) (nthv_get h7) hq
            · cases h
          · simp only [Option.some.injEq] at h; subst h
            obtain ⟨g0, g1, g2⟩ := hq
            have hlt : ie.den.toNat < vs.length := by omega
            exact step_elem ha hr him hop h1 h2 h3 h4 (n := ie.den.toNat) rfl (by omega) (List.getElem?_eq_getElem hlt) (g2 _ (List.getElem?_eq_getElem hlt))
        · rename_i id lo n h4
          split at h
          · rename_i fx e sz α f l h5
            replace h := bif_some' h
            obtain ⟨h6, h⟩ := h
            have := eqN_true h6
            subst this; simp only [Option.some.injEq] at h; subst h
            replace hq := chk_of hq
            obtain ⟨g1, hq⟩ := hq
            replace hq := chk_of hq
            obtain ⟨g2, hq⟩ := hq
            have k1 : 0 ≤ ie.den := by simpa [cmpI_den, cmpD, IE.den] using g1
            have k2 : ie.den < n.den := by rw [cmpI_den] at g2; exact of_decide_eq_true g2
            exact step_vwelem ha hr him hop h1 h2 h3 h4 h5 k1 k2 hq
          · cases h
        · rename_i id h4
          split at h
          · rename_i fx e sz α f l h5
            replace h := bif_some' h
            obtain ⟨h6, h⟩ := h
            have := eqN_true h6
            subst this; simp only [Option.some.injEq] at h; subst h
            replace hq := chk_of hq
            obtain ⟨g1, hq⟩ := hq
            replace hq := chk_of hq
            obtain ⟨g2, hq⟩ := hq
            have k1 : 0 ≤ ie.den := by simpa [cmpI_den, cmpD, IE.den] using g1
            have k2 : ie.den < l.length := by rw [cmpI_den] at g2; exact of_decide_eq_true g2
            exact step_oelem ha hr him hop h1 h2 h3 h4 h5 k1 k2 hq
          · cases h
        · cases h
      · cases h
    · rename_i n el q1 q2 q3 ie h1 h2
      split at h
      · rename_i ti h3
        split at h
        · rename_i cs h4
          split at h
          · rename_i j h5
            replace h := bif_some' h
            obtain ⟨h6, h⟩ := h
            simp only [Bool.and_eq_true] at h6
            simp only [Option.some.injEq] at h; subst h
            exact step_aelem ha hr him hop h1 h2 h3 h4 (natOf_den h5) (by simpa using h6.1) (fun i v hv => by simpa using hv) hq
          · replace h := bif_some' h
            obtain ⟨h6, h⟩ := h
            simp only [Bool.and_eq_true] at h6
            simp only [Option.some.injEq] at h; subst h
            obtain ⟨g0, g1, g2⟩ := hq
            have e1 := eqN_true h6.1
            have e2 := eqN_true h6.2
            have hlt : ie.den.toNat < cs.length := by omega
            refine step_aelem ha hr him hop h1 h2 h3 h4 (n := ie.den.toNat) (by omega) (by omega) (ys := [cs[ie.den.toNat]]) (fun i v hv => ?_) (g2 _ (List.getElem?_eq_getElem hlt))
            cases i with
            | zero => simp at hv; subst hv; rw [e1]; simp [hlt]
            | succ i => simp at hv
        · rename_i id off h4
          split at h
          · rename_i j h5
            replace h := bif_some' h
            obtain ⟨h6, h⟩ := h
            simp only [Option.some.injEq] at h; subst h
            exact step_velem ha hr him hop h1 h2 h3 h4 (natOf_den h5) (by simpa using h6) hq
          · cases h
        · cases h
      · cases h
    · cases h
  · -- slice
    rename_i t x lo hi hop
    split at h
    · rename_i el q1 q2 q3 h1
      split at h
      · rename_i ti l0 h0 h2 h3 h4
        have hw := res_ra ha hr.toRel him x
        split at h
        · rename_i sz α f l h5
          replace h := bif_some' h
          obtain ⟨h6, h⟩ := h
          have := eqN_true h6
          subst this; simp only [Option.some.injEq] at h; subst h
          rw [h5] at hw
          obtain ⟨v, y, m1, m2, m3⟩ := step_sub ha hr him h1 h2 h3 h4 hop (RA.of_elems hw rfl) (J := J) hq
          exact ⟨v, y, m1, .d _ _ m2, m3⟩
        · cases h
      · cases h
    · cases h
  · -- build
    rename_i t parts hop
    split at h
    · rename_i fs q1 q2 zero h1
      split at h
      · rename_i cs h2
        simp only [Option.some.injEq] at h; subst h
        exact step_build_struct ha hr him hop h1 h2 hq
      · cases h
    · rename_i n el q1 q2 zero h1
      split at h
      · rename_i ti h2
        split at h
        · rename_i cs h3
          simp only [Option.some.injEq] at h; subst h
          exact step_build_arr ha hr him hop h1 h2 h3 hq
        · cases h
      · cases h
    · cases h
  · -- index of a text
    rename_i t x y hop
    split at h
    · rename_i q1 q2 q3 e ie h1 h2 h3
      simp only [Option.some.injEq] at h; subst h
      obtain ⟨g0, g1, g2⟩ := hq
      have hx := res_ra ha hr.toRel him x
      rw [h2] at hx
      obtain ⟨hv, hl⟩ := RA.of_str hx
      obtain ⟨k, hy, _⟩ := ieOf_ra (res_ra ha hr.toRel him y) h3
      have hlt : ie.den.toNat < e.den.length := by omega
      have hb : e.den[ie.den.toNat]? = some e.den[ie.den.toNat] := List.getElem?_eq_getElem hlt
      refine ⟨.int .u8 (e.den[ie.den.toNat].toNat : Int), _, fun w' => ?_, ra_int (e := .byte _) rfl ?_, g2 _ hb⟩
      · have hr := run_index_string (P := P) w' t ⟨e.den.toArray⟩ k ie.den (str_ty hr.tab h1)
        have hsz : (⟨e.den.toArray⟩ : ByteArray).size = e.den.length := rfl
        rw [dif_pos ⟨g0, by rw [hsz]; exact g1⟩] at hr
        simp only [execOp, hop, Sem.run_bind, Sem.run_pure, hv, hy, hr, Result.andThen_ok]
        rfl
      · rw [has_iff]
        have := (e.den[ie.den.toNat]).toNat_lt
        simp [lo, hi]; omega
    · cases h
  · cases h

theorem viewOp_sound (ha : a.tmps = tm) (hr : Rl P c z F β s tm w) {im : List (Nat × Bool)} (him : ∀ t b, (t, b) ∈ im → tm.getD t undef = .bool b) {q : (V → Prop) → Prop} (h : viewOp c im op.op s = some q) {J : V → Prop} (hq : q J) : YieldTo P s w F β a op J := by
  unfold viewOp at h
  split at h
  · rename_i t x lo hi hop
    split at h
    · rename_i el q1 q2 q3 h1
      split at h
      · rename_i ti l0 h0 h2 h3 h4
        split at h
        · rename_i id h5
          split at h
          · rename_i fx e sz α f l h6
            replace h := bif_some' h
            obtain ⟨h7, h⟩ := h
            have := eqN_true h7
            subst this; simp only [Option.some.injEq] at h; subst h
            obtain ⟨lo', n, g1, g2, g0, g3, g4, hk⟩ := hq
            obtain ⟨i, hi1⟩ : ∃ i : Nat, l0.den = i := ⟨l0.den.toNat, by omega⟩
            obtain ⟨j, hj1⟩ : ∃ j : Nat, (h0.getD (.len l)).den = j := ⟨(h0.getD (.len l)).den.toNat, by omega⟩
            obtain ⟨ad, cc, e1, e2, e3⟩ := step_oview ha hr him h1 h2 h3 h4 hop h5 h6 hi1 hj1 (by omega) (by omega)
            refine ⟨_, _, e2, ?_, hk⟩
            by_cases hz : j - i = 0
            · rw [hz]
              exact .view0 id fx e ti.sz f l h6 lo' n i (g1.trans hi1) (by rw [g2]; omega) (by omega) _ _
            · rcases e3 with ⟨rfl, _, _⟩ | ⟨b, cur, m1, rfl, m3, m4, m5, m6, m7⟩
              · simp at g4; omega
              · have hne : ¬ cc = i := by omega
                rw [if_neg hne, Option.map_some, Addr.add_at, Nat.zero_add]
                exact .view id b m1 fx e ti.sz f l cc h6 m3 m4 m5 cur m6 m7 lo' n i (j - i) (g1.trans hi1) (by rw [g2]; omega) (by omega) (by omega)
          · cases h
        · cases h
      · cases h
    · cases h
  · cases h

theorem effOp_sound (ha : a.tmps = tm) (hr : Rl P c z F β s tm w) {im : List (Nat × Bool)} (him : ∀ t b, (t, b) ∈ im → tm.getD t undef = .bool b) (h : effOp P c im op s K) : StepTo P c z s tm w a op K := by
  unfold effOp at h
  split at h
  · -- alloc
    rename_i t hop
    split at h
    · rename_i d ti h1 h2
      obtain ⟨h3, h⟩ := bif_true h
      exact step_alloc hr hop h2 (by simpa using h3) h
    · exact h.elim
  · -- box
    rename_i t x hop
    split at h
    · rename_i d cs h1 h2
      obtain ⟨h3, h⟩ := bif_true h
      exact step_box ha hr him hop h2 (by simpa using h3) h
    · exact h.elim
  · -- store
    rename_i t x y hop
    split at h
    · rename_i ti id off vs h1 h2 h3
      split at h
      · rename_i cs h4
        obtain ⟨h5, h⟩ := bif_true h
        simp only [Bool.and_eq_true] at h5
        exact step_store ha hr him hop h1 h2 h3 h4 (eqN_true h5.1) (by simpa using h5.2) h
      · exact h.elim
    · rename_i ti id i off vs h1 h2 h3
      split at h
      · rename_i fx e sz α f l h4
        obtain ⟨h5, h⟩ := bif_true h
        simp only [Bool.and_eq_true] at h5
        exact step_estore ha hr him hop h1 h2 h3 h4 (eqN_true h5.1.1) (by simpa using h5.1.2) h5.2 h
      · exact h.elim
    · exact h.elim
  · -- load
    rename_i t x hop
    split at h
    · rename_i ti id i off h1 h2
      split at h
      · rename_i fx e sz α f l h3
        exact step_eload ha hr him hop h1 h2 h3 h
      · exact h.elim
    · exact h.elim
  · -- slice
    rename_i t x lo hi hop
    split at h
    · rename_i el q1 q2 q3 h1
      split at h
      · rename_i ti l0 h0 h2 h3 h4
        split at h
        · rename_i id h5
          split at h
          · rename_i fx e sz α f l h6
            replace h := bif_true h
            obtain ⟨h7, h⟩ := h
            have := eqN_true h7
            subst this
            exact step_subO ha hr him h1 h2 h3 h4 hop h5 h6 h
          · exact h.elim
        · exact h.elim
      · exact h.elim
    · exact h.elim
  · -- convert
    rename_i sr d x hop
    split at h
    · rename_i el q1 q2 q3 u1 u2 u3 h1 h2
      split at h
      · rename_i v1 v2 v3 h3
        exact step_str ha hr him hop h1 h2 h3 h
      · exact h.elim
    · exact h.elim
  · -- makeSlice
    rename_i t l cp hop
    split at h
    · rename_i d el q1 q2 q3 n h1 h2 h3 h4
      split at h
      · rename_i ti h5
        obtain ⟨h6, h⟩ := bif_true h
        simp only [Bool.and_eq_true] at h6
        refine step_make ha hr him hop h2 h3 ?_ h5 (by simpa using h6.1) h (by simpa using h6.2)
        split at h4
        · left; rw [eqN_true h4]
        · right; exact ⟨_, _, _, rfl, by rw [of_decide_eq_true h4]; rfl⟩
        · cases h4
      · exact h.elim
    · exact h.elim
  · -- buildSlice
    rename_i t n parts hop
    split at h
    · rename_i el q1 q2 q3 xs h1 h2
      split at h
      · rename_i ti h3
        obtain ⟨h4, h⟩ := bif_true h
        simp only [Bool.and_eq_true] at h4
        obtain ⟨⟨⟨⟨⟨g1, g2⟩, g3⟩, g4⟩, g5⟩, g6⟩ := h4
        have hdata := fun h => step_buildSlice (K := K) ha hr him hop h1 h2 h3 (eqN_true g1) g2 g3 g4 (by simpa using g5) (by simpa using g6) h
        split at h
        · rename_i d hd hn0
          cases hlt : ltN d 10000 with
          | false => rw [hlt] at h; exact hdata h
          | true =>
            rw [hlt] at h
            cases h with
            | data h => exact hdata h
            | own f h => exact step_buildEmpty ha hr hop h1 (by rw [eqN_true g1]; exact eqN_true hn0) h2 h3 (eqN_true hn0) (by simpa using hlt) f h
        · rename_i d hd hn0
          cases hlt : (ltN d 10000 && eqN (oslIdsl (xs.map fun x => res s.e im (evalO c s.e x))).length 0) with
          | false => rw [hlt] at h; exact hdata h
          | true =>
            rw [hlt] at h
            simp only [Bool.and_eq_true] at hlt
            have hids : oslIdsl (xs.map fun x => res s.e im (evalO c s.e x)) = [] := List.eq_nil_of_length_eq_zero (eqN_true hlt.2)
            cases h with
            | data h => exact hdata h
            | own f l hl hc hk =>
              rw [hids] at g2 g3 hl hc
              exact step_buildOwn ha hr him hop h1 h2 h3 (eqN_true g1) (by simpa [eqN] using hn0) hids g2 g3 (by simpa using g5) (by simpa using g6) (by simpa using hlt.1) hl hc (hk l rfl)
        · exact hdata h
      · exact h.elim
    · exact h.elim
  · -- append
    rename_i x y t u hop
    split at h
    · rename_i d el q1 q2 q3 h1 h2 h3
      have := eqN_true h3
      subst this
      split at h
      · rename_i ti h4
        obtain ⟨h5, h⟩ := bif_true h
        simp only [Bool.and_eq_true] at h5
        have hby : 0 < ti.bytes := by simpa using h5.2
        cases h with
        | nil f xs hs hx hb hk =>
          have := hk xs rfl
          rw [hs] at this
          exact step_append_nil ha hr him hop h2 h4 (by simpa using h5.1.1) (by simpa using h5.1.2) hs hx hb this
        | own f l xs id hs ho hx hb hk =>
          have := hk _ rfl
          rw [hs] at this
          obtain ⟨g1, g2⟩ := bif_true this
          have hlim : l.length + xs.length ≤ LIM := by
            have := Nat.le_mul_of_pos_right (l.length + xs.length) hby
            unfold LIM
            omega
          refine step_append_own ha hr him hop h2 h4 (by simpa using h5.1.2) hs ho hx hb hlim rfl ?_ g2
          simp only [Bool.or_eq_true, Bool.not_eq_true'] at g1
          rcases g1 with g1 | g1
          · exact .inl (by simpa using g1)
          · refine .inr fun ent he => ?_
            cases hp : pinned ent with
            | false => rfl
            | true => rw [hr.pins id ent he hp] at g1; cases g1
      · exact h.elim
    · exact h.elim
  · -- copy
    rename_i x y t u hop
    split at h
    · rename_i el q1 q2 q3 h1 h2
      have := eqN_true h2
      subst this
      split at h
      · rename_i ti h3
        replace h := bif_true h
        obtain ⟨h4, h⟩ := h
        exact step_copy ha hr him hop h1 h3 (by simpa using h4) h
      · exact h.elim
    · exact h.elim
  · -- clear
    rename_i x t hop
    split at h
    · rename_i el q1 q2 q3 h1
      split at h
      · rename_i ti h2
        replace h := bif_true h
        obtain ⟨h3, h⟩ := h
        exact step_clear ha hr him hop h1 h2 (by simpa using h3) h
      · exact h.elim
    · exact h.elim
  · -- call
    rename_i f args ats hop
    split at h
    · rename_i f' first cap h1
      exact step_call ha hr him hop h1 h
    · exact h.elim
  · exact h.elim

theorem stepOp_sound (ha : a.tmps = tm) (hr : Rl P c z F β s tm w) {im : List (Nat × Bool)} (him : ∀ t b, (t, b) ∈ im → tm.getD t undef = .bool b) (h : stepOp P c im op s K) : StepTo P c z s tm w a op K := by
  unfold stepOp at h
  split at h
  · rename_i v hv
    obtain ⟨val, hy, hra⟩ := pure_run ha hr.toRel him hv
    exact StepTo.of_run hy h hr hra
  · split at h
    · rename_i q hq
      exact (semiOp_sound ha hr him hq h).step hr
    · exact effOp_sound ha hr him h

end
end Go.Vg
