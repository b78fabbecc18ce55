/- The own layer, part A6: soundness of the conditions of code. -/
import Derived.Test.YtpdklmagncfhaaaDoorA5
import Derived.RangeFuncNested
import Derived.OrdersIn
import Derived.TacticsIn
set_option maxRecDepth 4000
set_option linter.all false
set_option linter.unusedVariables false
set_option linter.unusedSimpArgs false
/- The conditions suffice: operations in any order. -/
namespace Go.Vg
open Go

def From.mark (z : From) (m : Mark) : From := { z with m := m }

section
variable {P : Program} {c : Ctx} {z : From} {F : Nat → Prop} {β : Bt} {s : St} {tm : Array Value} {w : World} {a : Act} {op : Oper} {ops : Array Oper} {Q : Exit → Act → World → Prop}

theorem Rl.remark (hr : Rl P c z F β s tm w) : Rl P c (z.mark ⟨w, F, β⟩) F β ⟨s.e, s.o, []⟩ tm w :=
  { hr with
    own := hr.own, fresh := hr.fresh, hold := hr.hold, nw := hr.nw, mk0 := Nat.le_refl _, mk1 := fun b _ hn => ⟨rfl, hn⟩
    mk2 := fun id b hb hlt _ => ⟨rfl, .inr ⟨hb, by
      have hb' : β id = some b := hb
      cases h : olook s.o id with
      | some e => exact ⟨e, rfl⟩
      | none => rw [hr.dom id h] at hb'; cases hb'⟩⟩ }

/-- What stays through a region. -/
def Sm (T : Option (List Nat)) (w : World) (F : Nat → Prop) (β : Bt) (w' : World) : Prop :=
  w.heap.size ≤ w'.heap.size ∧ ∀ b, b < w.heap.size → (¬ F b ∨ ∃ id, memT T id = false ∧ β id = some b) → w'.heap[b]? = w.heap[b]?

theorem Sm.refl (T : Option (List Nat)) (w : World) (F : Nat → Prop) (β : Bt) : Sm T w F β w := ⟨Nat.le_refl _, fun _ _ _ => rfl⟩

theorem Rl.sm {T : Option (List Nat)} {w1 : World} {F1 : Nat → Prop} {β1 : Bt} (hr : Rl P c (z.mark ⟨w1, F1, β1⟩) F β s tm w) (ht : subT T s.t = true) : Sm T w1 F1 β1 w := by
  refine ⟨hr.mk0, fun b hb h => ?_⟩
  rcases h with h | ⟨id, h1, h2⟩
  · exact (hr.mk1 b hb h).1
  · exact (hr.mk2 id b h2 hb (subT_mem ht h1)).1
theorem Rl.sm_mono {T : Option (List Nat)} {w1 : World} {F1 : Nat → Prop} {β1 : Bt} (hr : Rl P c (z.mark ⟨w1, F1, β1⟩) F β s tm w) (ht : subT T s.t = true) {w' : World} (h : Sm T w F β w') : Sm T w1 F1 β1 w' := by
  refine ⟨Nat.le_trans hr.mk0 h.1, fun b hb hh => ?_⟩
  have hlt := Nat.lt_of_lt_of_le hb hr.mk0
  rcases hh with hh | ⟨id, h1, h2⟩
  · obtain ⟨k1, k2⟩ := hr.mk1 b hb hh
    exact (h.2 b hlt (.inl k2)).trans k1
  · obtain ⟨k1, k2⟩ := hr.mk2 id b h2 hb (subT_mem ht h1)
    rcases k2 with k2 | ⟨k2, _⟩
    · exact (h.2 b hlt (.inl k2)).trans k1
    · exact (h.2 b hlt (.inr ⟨id, h1, k2⟩)).trans k1

theorem wpAnyH_mono {md : Region.Mode} {S S' : World → Prop} (hs : ∀ w, S w → S' w) : ∀ (fuel : Nat) (listed : Array Bool) (a : Act) (w : World), wpAnyH P md ops Q S fuel listed a w → wpAnyH P md ops Q S' fuel listed a w
  | 0, _, _, _, h => h
  | n + 1, _, _, _, h => ⟨h.1, fun i hi => wpOp_mono (fun a w ⟨h1, h2⟩ => ⟨hs _ h1, wpAnyH_mono hs n _ a w h2⟩) (h.2 i hi)⟩

theorem bif_none' {α : Type _} {b : Bool} {x : Option α} {y : α} (h : (bif b then none else x) = some y) : b = false ∧ x = some y := by
  cases b
  · exact ⟨rfl, h⟩
  · cases h
theorem eldOp_sound {T : Option (List Nat)} {o : Oper} (hr : Rl P c z F β s a.tmps w) {im : List (Nat × Bool)} (him : ∀ t b, (t, b) ∈ im → a.tmps.getD t undef = .bool b) {J : V → Prop} {q : (V → Prop) → Prop} (h : eldOp c T im o.op s = some q) (hp : q J) :
    ∃ v x, (∀ w', Sm T w F β w' → (execOp a.eval o).run P w' = .ok (.value v) w') ∧ RA w F β s.o v x ∧ J x := by
  unfold eldOp at h
  split at h
  · rename_i t x hop
    split at h
    · rename_i ti id ix off ht hx
      replace h := bif_none' h
      obtain ⟨hT, h⟩ := h
      split at h
      · rename_i fx e sz α f l ho
        simp only [Option.some.injEq] at h; subst h
        have hxx := res_ra rfl hr.toRel him x
        rw [hx] at hxx
        obtain ⟨b, fx1, e1, sz1, n, α1, f1, l1, g1, g2, g3, g4, g5⟩ := RA.of_eptr hxx
        rw [ho] at g2
        simp only [Option.some.injEq, Ent.arr.injEq] at g2
        obtain ⟨rfl, rfl, rfl, rfl, hf, hll⟩ := g2
        have hf := eq_of_heq hf
        have hll := eq_of_heq hll
        subst hf; subst hll
        have hnat : ix.den.toNat = n := by rw [g3]; simp
        rcases hr.own.ent id _ ho with ⟨k1, _⟩ | ⟨b', cur, m1, m2, m3, m4, m5, m6⟩
        · rw [k1] at g1; cases g1
        rw [g1] at m1; cases m1
        obtain ⟨hk⟩ := hp
        have hpn : l[n]? = some l[n] := List.getElem?_eq_getElem g4
        obtain ⟨q1, q2⟩ := m6 n _ hpn
        have hwf : V.wf (f l[n]) := V.wf_of_cells fun j y hy => by
          obtain ⟨cv, _, hcv⟩ := q2 j y hy
          exact hcv.wf
        have hk' := hk l[n] (by rw [hnat]; exact hpn) hwf
        have hc : Cells w F β s.o b (n * sz) (cells (f l[n])) := fun j y hj => by
          obtain ⟨cv, k1, k2⟩ := q2 j y hj
          exact ⟨cv, by simp [World.cell?, m3, k1], m5 cv (Array.mem_of_getElem? k1), .d _ _ k2⟩
        split at hk'
        · rename_i v hv
          obtain ⟨val, r1, r2⟩ := loadX_run hr.tab ht (hc.drop off) hv
          refine ⟨val, v, fun w' hw => ?_, r2, hk'⟩
          have hb' := hw.2 b (hr.Flt b m2) (.inr ⟨id, hT, g1⟩)
          simp [execOp, hop, Instr.loadAt, Instr.sureAddr, g5, r1 w' hb']
        · cases hk'
      · cases h
    · cases h
  · cases h

/-- What an operation yields that is taken first. -/
theorem tryE_sound {all : List Oper} {T : Option (List Nat)} {o : Oper} (hr : Rl P c z F β s a.tmps w) {im : List (Nat × Bool)} (him : ∀ t b, (t, b) ∈ im → a.tmps.getD t undef = .bool b) {J : V → Prop} {p : Prop} (h : tryE c all T im o s J = some p) (hp : p) :
    ∃ v x, (∀ w', Sm T w F β w' → (execOp a.eval o).run P w' = .ok (.value v) w') ∧ RA w F β s.o v x ∧ J x := by
  unfold tryE at h
  split at h
  · rename_i x hx
    replace h := bif_some' h
    obtain ⟨h1, h⟩ := h
    simp only [Option.some.injEq] at h; subst h
    obtain ⟨v, g1, g2⟩ := pure_run' (H := Sm T w F β) rfl hr.toRel him hx (fun w' hw b hb hn => hw.2 b hb (.inl hn)) (fun t y id off hop hy w' b hw hb => by
      rw [hop] at h1
      simp only [loadOk, hy] at h1
      have he : ∃ ent, olook s.o id = some ent := by
        cases h : olook s.o id with
        | some e => exact ⟨e, rfl⟩
        | none => rw [hr.dom id h] at hb; cases hb
      obtain ⟨ent, he⟩ := he
      exact hw.2 b (hr.Flt b ((hr.own.ent id ent he).blk hb).1) (.inr ⟨id, by simpa using h1, hb⟩))
    exact ⟨v, x, g1, g2, hp⟩
  · split at h
    · rename_i q hq
      simp only [Option.some.injEq] at h; subst h
      obtain ⟨v, x, g1, g2, g3⟩ := semiOp_sound (J := J) rfl hr him hq hp
      exact ⟨v, x, fun w' _ => g1 w', g2, g3⟩
    · split at h
      · rename_i q hq
        simp only [Option.some.injEq] at h; subst h
        exact eldOp_sound hr him hq hp
      · replace h := (bif_some' h).2
        split at h
        · rename_i q hq
          simp only [Option.some.injEq] at h; subst h
          obtain ⟨v, x, g1, g2, g3⟩ := viewOp_sound (J := J) rfl hr him hq hp
          exact ⟨v, x, fun w' _ => g1 w', g2, g3⟩
        · cases h

theorem offL_spec {w0 : World} {F0 S0 : Nat → Prop} {tm : Array Value} (hr : Rel P c w0 F0 S0 F β s tm w) : ∀ (n : Nat) {t : Nat} {want : Bool}, offL n s.e t want = true → tm.getD t undef ≠ .bool want
  | 0, _, _, h => by cases h
  | n + 1, t, want, h => by
    simp only [offL] at h
    split at h
    · rename_i b hb
      have h1 := look_lit hr hb
      rw [h1]
      intro e; cases e; simp at h
    · rename_i t' b' v hv
      have henv := hr.env t
      rw [hv] at henv
      rcases henv with ⟨e, _⟩ | ⟨_, e⟩
      · exact absurd e (offL_spec hr n h)
      · rw [e]; simp [undef]
    · cases h
theorem takeE_sound {T : Option (List Nat)} {o : Oper} (hr : Rl P c z F β s a.tmps w) {k : St → Prop} {p : Prop} (h : takeE c ops.toList T o s k = some p) (hp : p) :
    ∃ v s', YieldsIf P ops (Sm T w F β) o v a ∧ Rl P c z F β s' (a.put o.dst v).tmps w ∧ s'.t = s.t ∧ k s' := by
  have putt : ∀ (s : St) (d : Option Tmp) (x : V), (putO c.N s d x).t = s.t := fun s d x => by
    cases d with
    | none => rfl
    | some d => simp only [putO]; cases (ltN d c.N) <;> rfl
  unfold takeE at h
  simp only [cnd_eq] at h
  split at h
  · rename_i hg
    obtain ⟨v, x, g1, g2, g3⟩ := tryE_sound hr (by simp) h hp
    exact ⟨v, _, .inl ⟨wanted_none hg _, g1⟩, hr.put o.dst g2 a rfl, putt _ _ _, g3⟩
  · rename_i g wt hg
    split at h
    · rename_i t ht
      have hw := fun tm => wanted_some hg ht tm
      cases hd : dstIs o.dst t with
      | true => rw [hd] at h; cases h
      | false =>
      rw [hd] at h
      simp only [cond_false] at h
      split at h
      · rename_i b hb
        have h1 := look_lit hr.toRel hb
        cases hbw : (b == wt) with
        | true =>
          simp only [hbw, cond_true] at h
          simp only [beq_iff_eq] at hbw; subst hbw
          obtain ⟨v, x, g1, g2, g3⟩ := tryE_sound hr (im := [(t, b)]) (by simpa using h1) h hp
          exact ⟨v, _, .inl ⟨(hw _).2 h1, g1⟩, hr.put o.dst g2 a rfl, putt _ _ _, g3⟩
        | false =>
          simp only [hbw, cond_false, Option.some.injEq] at h
          subst h
          have hn : a.tmps.getD t undef ≠ .bool wt := by rw [h1]; intro e; cases e; simp at hbw
          refine ⟨undef, _, .inr ⟨?_, rfl⟩, hr.skip hn o.dst hd _, putt _ _ _, hp⟩
          cases hc : Region.wanted o (yielded ops a.tmps) with
          | false => rfl
          | true => exact absurd ((hw _).1 hc) hn
      · rename_i q hq0 hq1
        split at h
        · rename_i x hx
          replace h := bif_some' h
          obtain ⟨h1, h⟩ := h
          simp only [Option.some.injEq] at h; subst h
          by_cases hn : a.tmps.getD t undef = .bool wt
          · obtain ⟨v, x', g1, g2, g3⟩ := tryE_sound (all := ops.toList) (T := T) hr (im := [(t, wt)]) (o := o) (by simpa using hn) (J := fun x' => x' = x) (p := x = x) (by unfold tryE; rw [hx]; simp [h1, cnd]) rfl
            subst g3
            exact ⟨v, _, .inl ⟨(hw _).2 hn, g1⟩, hr.when hn o.dst hd g2, putt _ _ _, hp⟩
          · refine ⟨undef, _, .inr ⟨?_, rfl⟩, hr.skip hn o.dst hd _, putt _ _ _, hp⟩
            cases hc : Region.wanted o (yielded ops a.tmps) with
            | false => rfl
            | true => exact absurd ((hw _).1 hc) hn
        · cases h
      · rename_i t' b' v' hq1
        have henv := hr.env t
        rw [hq1] at henv
        cases hd' : dstIs o.dst t' with
        | true => rw [hd'] at h; cases h
        | false =>
        rw [hd'] at h
        simp only [cond_false] at h
        cases hoff : offL 8 s.e t' b' with
        | true =>
          simp only [hoff, cond_true, Option.some.injEq] at h
          subst h
          have hn : a.tmps.getD t undef ≠ .bool wt := by
            rcases henv with ⟨e, _⟩ | ⟨_, e⟩
            · exact absurd e (offL_spec hr.toRel 8 hoff)
            · rw [e]; simp [undef]
          refine ⟨undef, _, .inr ⟨?_, rfl⟩, hr.skip hn o.dst hd _, putt _ _ _, hp⟩
          cases hc : Region.wanted o (yielded ops a.tmps) with
          | false => rfl
          | true => exact absurd ((hw _).1 hc) hn
        | false =>
        simp only [hoff, cond_false] at h
        split at h
        · rename_i x hx
          replace h := bif_some' h
          obtain ⟨h1, h⟩ := h
          simp only [Option.some.injEq] at h; subst h
          by_cases hn : a.tmps.getD t undef = .bool wt
          · have hy : a.tmps.getD t' undef = .bool b' := by
              rcases henv with ⟨e, _⟩ | ⟨_, e⟩
              · exact e
              · rw [e] at hn; simp [undef] at hn
            obtain ⟨v, x', g1, g2, g3⟩ := tryE_sound (all := ops.toList) (T := T) hr (im := [(t, wt), (t', b')]) (o := o) (fun t1 b1 hm => by
              simp only [List.mem_cons, Prod.mk.injEq, List.not_mem_nil, or_false] at hm
              rcases hm with ⟨rfl, rfl⟩ | ⟨rfl, rfl⟩
              · exact hn
              · exact hy) (J := fun x' => x' = x) (p := x = x) (by unfold tryE; rw [hx]; simp [h1, cnd]) rfl
            subst g3
            exact ⟨v, _, .inl ⟨(hw _).2 hn, g1⟩, hr.when hn o.dst hd g2, putt _ _ _, hp⟩
          · refine ⟨undef, _, .inr ⟨?_, rfl⟩, hr.skip hn o.dst hd _, putt _ _ _, hp⟩
            cases hc : Region.wanted o (yielded ops a.tmps) with
            | false => rfl
            | true => exact absurd ((hw _).1 hc) hn
        · cases h
      · cases h
    · cases h

theorem pickE_sound {T : Option (List Nat)} {k : Nat → St → Prop} {p : Prop} (hp : p) : ∀ (rs : List Nat), pickE c ops.toList T s k rs = some p → ∃ i o, i ∈ rs ∧ ops[i]? = some o ∧ takeE c ops.toList T o s (k i) = some p
  | [], h => by simp [pickE] at h
  | i :: r, h => by
    simp only [pickE] at h
    split at h
    · rename_i o ho
      rw [nthO_eq] at ho
      split at h
      · rename_i p' hp'
        simp only [Option.some.injEq] at h; subst h
        exact ⟨i, o, List.mem_cons_self, by simpa using ho, hp'⟩
      · obtain ⟨j, o', h1, h2, h3⟩ := pickE_sound hp r h
        exact ⟨j, o', List.mem_cons_of_mem _ h1, h2, h3⟩
    · cases h

theorem allE_mem {T : Option (List Nat)} {k : Nat → St → Prop} : ∀ (rs : List Nat), allE P c ops.toList T s k rs → ∀ i, i ∈ rs → ∃ o, ops[i]? = some o ∧ effS P c ops.toList T o s (k i)
  | [], _, i, hi => by cases hi
  | [j], h, i, hi => by
    simp only [allE] at h
    rw [List.mem_singleton] at hi
    subst hi
    split at h
    · rename_i o ho
      rw [nthO_eq] at ho
      exact ⟨o, by simpa using ho, h⟩
    · exact h.elim
  | j :: j' :: r, h, i, hi => by
    simp only [allE] at h
    rcases List.mem_cons.1 hi with rfl | hi
    · have h := h.1
      split at h
      · rename_i o ho
        rw [nthO_eq] at ho
        exact ⟨o, by simpa using ho, h⟩
      · exact h.elim
    · exact allE_mem (j' :: r) h.2 i hi

theorem effE_sound {T : Option (List Nat)} {o : Oper} {im : List (Nat × Bool)} {k : St → Prop} (hr : Rl P c (z.mark ⟨w, F, β⟩) F β s a.tmps w) (him : ∀ t b, (t, b) ∈ im → a.tmps.getD t undef = .bool b) (h : effE P c T im o s k) {N : Act → World → Prop}
    (hn : ∀ s' F' β' a' w', k s' → s'.t = [] → Rl P c (z.mark ⟨w', F', β'⟩) F' β' s' a'.tmps w' → Sm T w F β w' → (∀ w'', Sm T w' F' β' w'' → Sm T w F β w'') → a'.defers = a.defers → N a' w') : o.wp P a w N Q :=
  stepOp_sound (K := fun out => afterE c T o k out.v (s.after out)) rfl hr him h _ _ fun out F' β' val w' hk hr' hv => by
    unfold afterE at hk; simp only [cnd_eq] at hk
    obtain ⟨h1, h2⟩ := bif_true hk
    have hr2 := (hr'.remark).put o.dst (by exact hv) a rfl
    refine hn _ F' β' _ w' h2 ?_ hr2 (hr'.sm h1) (fun w'' hw => hr'.sm_mono h1 hw) (put_defers _ _ _)
    cases o.dst with
    | none => rfl
    | some d => simp only [putO]; cases (ltN d c.N) <;> rfl

theorem effS_sound {T : Option (List Nat)} {i : Nat} {o : Oper} (hi : ops[i]? = some o) {k : St → Prop} (ht : s.t = []) (hr : Rl P c (z.mark ⟨w, F, β⟩) F β s a.tmps w) (h : effS P c ops.toList T o s k) {N : Act → World → Prop}
    (hn : ∀ s' F' β' a' w', k s' → s'.t = [] → Rl P c (z.mark ⟨w', F', β'⟩) F' β' s' a'.tmps w' → Sm T w F β w' → (∀ w'', Sm T w' F' β' w'' → Sm T w F β w'') → a'.defers = a.defers → N a' w') : wpOp P ops Q i N a w := by
  have hlook : ∀ (s : St) (t : Nat) (v : V), look (setR s t v).e t = v := fun s t v => by simp [setR, look_putR]
  unfold wpOp
  simp only [hi]
  have skip : ∀ (s : St) (t : Nat) (wt : Bool), s.t = [] → Rl P c (z.mark ⟨w, F, β⟩) F β s a.tmps w → a.tmps.getD t undef ≠ .bool wt → dstIs o.dst t = false → k (putO c.N s o.dst (.opt t wt .junk)) → N (a.put o.dst undef) w := fun s t wt ht hr hx hd h =>
    hn _ F β _ w h (by
      cases o.dst with
      | none => exact ht
      | some d => simp only [putO]; cases (ltN d c.N) <;> exact ht) (hr.skip hx o.dst hd _) (Sm.refl _ _ _ _) (fun _ h => h) (put_defers _ _ _)
  unfold effS at h
  simp only [cnd_eq] at h
  split at h
  · rename_i hg
    rw [if_pos (wanted_none hg _)]
    exact .inl (effE_sound hr (by simp) h hn)
  · rename_i g wt hg
    split at h
    · rename_i t htt
      have hw := fun tm => wanted_some hg htt tm
      cases hd : dstIs o.dst t with
      | true => rw [hd] at h; exact h.elim
      | false =>
      rw [hd] at h
      simp only [cond_false] at h
      -- where it is known what the guard holds
      have run : ∀ (s : St) (gv : V) (im0 : List (Nat × Bool)), s.t = [] → Rl P c (z.mark ⟨w, F, β⟩) F β s a.tmps w → RA w F β s.o (a.tmps.getD t undef) gv → look s.e t = gv → (∀ t b, (t, b) ∈ im0 → a.tmps.getD t undef = .bool b) → effG P c T o t wt im0 s gv k →
          (if Region.wanted o (yielded ops a.tmps) = true then o.wp P a w N Q ∨ (o.asks P a w ∧ LetsOut Q) else N (a.put o.dst undef) w) := by
        intro s gv im0 ht hr hgv hgl him h
        have him' : a.tmps.getD t undef = .bool wt → ∀ t' b, (t', b) ∈ (t, wt) :: im0 → a.tmps.getD t' undef = .bool b := fun hw t' b hm => by
          rcases List.mem_cons.1 hm with e | e
          · cases e; exact hw
          · exact him t' b e
        unfold effG at h
        simp only [cnd_eq] at h
        split at h
        · rename_i b
          have h1 : a.tmps.getD t undef = .bool b := RA.of_bool hgv
          cases hbw : (b == wt) with
          | true =>
            simp only [hbw, cond_true] at h
            simp only [beq_iff_eq] at hbw; subst hbw
            rw [if_pos ((hw _).2 h1)]
            exact .inl (effE_sound hr (him' h1) h hn)
          | false =>
            simp only [hbw, cond_false] at h
            have hx : a.tmps.getD t undef ≠ .bool wt := by rw [h1]; intro e; cases e; simp at hbw
            rw [if_neg (fun e => hx ((hw _).1 e))]
            exact skip s t wt ht hr hx hd h
        · rename_i q hq0
          have hqt := RA.of_bool hgv
          obtain ⟨hT, hF⟩ := h
          cases hden : q.den with
          | true =>
            have h := hT hden
            have hr' := hr.setLit hgl hden
            have h1 : a.tmps.getD t undef = .bool true := by rw [hqt, hden]
            cases wt with
            | true =>
              simp only [cond_true] at h
              rw [if_pos ((hw _).2 h1)]
              exact .inl (effE_sound hr' (him' h1) h hn)
            | false =>
              simp only [cond_false] at h
              have hx : a.tmps.getD t undef ≠ .bool false := by rw [h1]; simp
              rw [if_neg (fun e => hx ((hw _).1 e))]
              exact skip (setR s t (.bool (.lit true))) t false ht hr' hx hd h
          | false =>
            have h := hF hden
            have hr' := hr.setLit hgl hden
            have h1 : a.tmps.getD t undef = .bool false := by rw [hqt, hden]
            cases wt with
            | false =>
              simp only [cond_false] at h
              rw [if_pos ((hw _).2 h1)]
              exact .inl (effE_sound hr' (him' h1) h hn)
            | true =>
              simp only [cond_true] at h
              have hx : a.tmps.getD t undef ≠ .bool true := by rw [h1]; simp
              rw [if_neg (fun e => hx ((hw _).1 e))]
              exact skip (setR s t (.bool (.lit false))) t true ht hr' hx hd h
        · exact h.elim
      have plain : ∀ (s : St) (gv : V) (im0 : List (Nat × Bool)), effG P c T o t wt im0 s gv k → (∀ t b x, gv ≠ .opt t b x) ∧ ∀ b, gv ≠ .nb b := fun s gv im0 h => by
        cases gv <;> first | (refine ⟨fun _ _ _ e => ?_, fun _ e => ?_⟩ <;> cases e; done) | exact (show False from h).elim
      have henv := hr.env t
      split at h
      · rename_i t' b' v hv
        rw [hv] at henv
        cases hd' : dstIs o.dst t' with
        | true => rw [hd'] at h; exact h.elim
        | false =>
        rw [hd'] at h
        simp only [cond_false] at h
        have off : a.tmps.getD t' undef ≠ .bool b' → a.tmps.getD t undef ≠ .bool wt := fun hn => by
          rcases henv with ⟨h1, _⟩ | ⟨_, h2⟩
          · exact absurd h1 hn
          · rw [h2]; simp [undef]
        have on : a.tmps.getD t' undef = .bool b' → RA w F β s.o (a.tmps.getD t undef) v := fun hy => by
          rcases henv with ⟨_, h2⟩ | ⟨h1, _⟩
          · exact h2
          · exact absurd hy h1
        have run1 : ∀ (s1 : St), s1.o = s.o → s1.t = [] → Rl P c (z.mark ⟨w, F, β⟩) F β s1 a.tmps w → a.tmps.getD t' undef = .bool b' → effG P c T o t wt [(t', b')] (setR s1 t v) v k →
            (if Region.wanted o (yielded ops a.tmps) = true then o.wp P a w N Q ∨ (o.asks P a w ∧ LetsOut Q) else N (a.put o.dst undef) w) := fun s1 ho ht1 hr1 hy h => by
          have hg := plain _ _ _ h
          have hv1 : RA w F β s1.o (a.tmps.getD t undef) v := by rw [ho]; exact on hy
          exact run (setR s1 t v) v [(t', b')] ht1 (hr1.setV hv1 hg.1 hg.2) hv1 (hlook s1 t v) (fun t b hm => by simp only [List.mem_singleton, Prod.mk.injEq] at hm; obtain ⟨rfl, rfl⟩ := hm; exact hy) h
        have skip1 : ∀ (s1 : St), s1.t = [] → Rl P c (z.mark ⟨w, F, β⟩) F β s1 a.tmps w → a.tmps.getD t' undef ≠ .bool b' → k (putO c.N s1 o.dst (.opt t wt .junk)) →
            (if Region.wanted o (yielded ops a.tmps) = true then o.wp P a w N Q ∨ (o.asks P a w ∧ LetsOut Q) else N (a.put o.dst undef) w) := fun s1 ht1 hr1 hy h => by
          rw [if_neg (fun e => off hy ((hw _).1 e))]
          exact skip s1 t wt ht1 hr1 (off hy) hd h
        split at h
        · rename_i b hb
          have h1 := look_lit hr.toRel hb
          cases hbw : (b == b') with
          | true =>
            simp only [hbw, cond_true] at h
            simp only [beq_iff_eq] at hbw; subst hbw
            exact run1 s rfl ht hr h1 h
          | false =>
            simp only [hbw, cond_false] at h
            exact skip1 s ht hr (by rw [h1]; intro e; cases e; simp at hbw) h
        · rename_i q hq0 hq1
          have hqt := hr.env t'
          rw [hq1] at hqt
          have hqt := RA.of_bool hqt
          obtain ⟨hT, hF⟩ := h
          cases hden : q.den with
          | true =>
            have h := hT hden
            have hr' := hr.setLit hq1 hden
            have h1 : a.tmps.getD t' undef = .bool true := by rw [hqt, hden]
            cases b' with
            | true => simp only [cond_true] at h; exact run1 (setR s t' _) rfl ht hr' h1 h
            | false => simp only [cond_false] at h; exact skip1 (setR s t' _) ht hr' (by rw [h1]; simp) h
          | false =>
            have h := hF hden
            have hr' := hr.setLit hq1 hden
            have h1 : a.tmps.getD t' undef = .bool false := by rw [hqt, hden]
            cases b' with
            | false => simp only [cond_false] at h; exact run1 (setR s t' _) rfl ht hr' h1 h
            | true => simp only [cond_true] at h; exact skip1 (setR s t' _) ht hr' (by rw [h1]; simp) h
        · exact h.elim
      · have hg := plain _ _ _ h
        exact run s _ [] ht hr (henv.ra hg.1 hg.2) rfl (by simp) h
    · exact h.elim

theorem tell1_sound {w : World} {F : Nat → Prop} {β : Bt} {m : Mark} {k : St → Prop} (t : Nat) {s : St} (hr : Rl P c (z.mark m) F β s a.tmps w) (h : tell1 t s k) : ∃ s', Rl P c (z.mark m) F β s' a.tmps w ∧ s'.t = s.t ∧ k s' := by
  simp only [tell1, cnd_eq] at h
  split at h
  · exact ⟨s, hr, rfl, h⟩
  · rename_i q hq0 hq1
    obtain ⟨hT, hF⟩ := h
    cases hden : q.den with
    | true => exact ⟨setR s t _, hr.setLit hq1 hden, rfl, hT hden⟩
    | false => exact ⟨setR s t _, hr.setLit hq1 hden, rfl, hF hden⟩
  · rename_i t' b' v hv
    have henv := hr.env t
    rw [hv] at henv
    cases hp : plainV v with
    | false => rw [hp] at h; exact ⟨s, hr, rfl, h⟩
    | true =>
      rw [hp] at h
      simp only [cond_true] at h
      have on : ∀ (s1 : St), s1.o = s.o → Rl P c (z.mark m) F β s1 a.tmps w → a.tmps.getD t' undef = .bool b' → Rl P c (z.mark m) F β (setR s1 t v) a.tmps w := fun s1 ho hr1 hy => by
        refine hr1.setV ?_ (fun _ _ _ e => by subst e; cases hp) (fun _ e => by subst e; cases hp)
        rw [ho]
        rcases henv with ⟨_, h2⟩ | ⟨h1, _⟩
        · exact h2
        · exact absurd hy h1
      split at h
      · rename_i b hb
        have h1 := look_lit hr.toRel hb
        cases hbw : (b == b') with
        | true =>
          simp only [hbw, cond_true] at h
          simp only [beq_iff_eq] at hbw; subst hbw
          exact ⟨setR s t v, on s rfl hr h1, rfl, h⟩
        | false =>
          simp only [hbw, cond_false] at h
          exact ⟨s, hr, rfl, h⟩
      · rename_i q hq0 hq1
        have hqt := hr.env t'
        rw [hq1] at hqt
        have hqt := RA.of_bool hqt
        obtain ⟨hT, hF⟩ := h
        cases hden : q.den with
        | true =>
          have h := hT hden
          have hr' := hr.setLit hq1 hden
          have h1 : a.tmps.getD t' undef = .bool true := by rw [hqt, hden]
          cases b' with
          | true => simp only [cond_true] at h; exact ⟨setR (setR s t' _) t v, on (setR s t' _) rfl hr' h1, rfl, h⟩
          | false => simp only [cond_false] at h; exact ⟨setR s t' _, hr', rfl, h⟩
        | false =>
          have h := hF hden
          have hr' := hr.setLit hq1 hden
          have h1 : a.tmps.getD t' undef = .bool false := by rw [hqt, hden]
          cases b' with
          | false => simp only [cond_false] at h; exact ⟨setR (setR s t' _) t v, on (setR s t' _) rfl hr' h1, rfl, h⟩
          | true => simp only [cond_true] at h; exact ⟨setR s t' _, hr', rfl, h⟩
      · exact ⟨s, hr, rfl, h⟩
  · exact ⟨s, hr, rfl, h⟩
theorem tell2_sound {w : World} {F : Nat → Prop} {β : Bt} {m : Mark} {k : St → Prop} (t : Nat) {s : St} (hr : Rl P c (z.mark m) F β s a.tmps w) (h : tell2 t s k) : ∃ s', Rl P c (z.mark m) F β s' a.tmps w ∧ s'.t = s.t ∧ k s' := by
  simp only [tell2, cnd_eq] at h
  split at h
  · rename_i t' b' v hv
    cases hp : plainV v with
    | false => rw [hp] at h; exact ⟨s, hr, rfl, h⟩
    | true =>
      rw [hp] at h
      simp only [cond_true] at h
      obtain ⟨s1, g1, g2, g3⟩ := tell1_sound t' hr h
      obtain ⟨s2, g4, g5, g6⟩ := tell1_sound t g1 g3
      exact ⟨s2, g4, g5.trans g2, g6⟩
  · exact tell1_sound t hr h
theorem tellG_sound {w : World} {F : Nat → Prop} {β : Bt} {m : Mark} {k : St → Prop} : ∀ (rs : List Nat) {s : St}, Rl P c (z.mark m) F β s a.tmps w → tellG ops.toList rs s k → ∃ s', Rl P c (z.mark m) F β s' a.tmps w ∧ s'.t = s.t ∧ k s'
  | [], s, hr, h => ⟨s, hr, rfl, h⟩
  | i :: r, s, hr, h => by
    simp only [tellG] at h
    split at h
    · split at h
      · split at h
        · obtain ⟨s1, g1, g2, g3⟩ := tell2_sound _ hr h
          obtain ⟨s2, g4, g5, g6⟩ := tellG_sound r g1 g3
          exact ⟨s2, g4, g5.trans g2, g6⟩
        · exact tellG_sound r hr h
      · exact tellG_sound r hr h
    · exact tellG_sound r hr h

theorem runAny_sound {T : Option (List Nat)} {K : St → Prop} {d : List Deferred} (hfree : freeAll ops.toList 0 ops.toList = true) (hsel : noSel ops.toList = true) (hQ : ∀ c a w, ¬ Q (.panic c) a w)
    (hq : ∀ s' m F' β' a' w', K s' → Rl P c (z.mark m) F' β' s' a'.tmps w' → a'.defers = d → Q .normal a' w') :
    ∀ (fuel : Nat) (ls : List Nat) {s : St} {a : Act} {w : World} {F : Nat → Prop} {β : Bt}, (∀ x, memN ls x = true → x < ops.size) → s.t = [] → Rl P c (z.mark ⟨w, F, β⟩) F β s a.tmps w → a.defers = d → runAny P c ops.toList T fuel ls s K →
      wpAnyH P .any ops Q (Sm T w F β) fuel (Lof ops.size ls) a w
  | 0, ls, s, a, w, F, β, hls, ht, hr, hd, h => by
    simp only [runAny] at h
    refine ⟨?_, ?_⟩
    · rw [ready_eq ls hls]
      split at h
      · assumption
      · exact h.elim
    · split at h
      · exact hq _ _ _ _ _ _ h hr hd
      · exact h.elim
  | fuel + 1, ls, s, a, w, F, β, hls, ht, hr, hd, h => by
    simp only [runAny] at h
    replace h := pz_go h
    split at h
    · rename_i hrd
      exact wpAnyH_done (by rw [ready_eq ls hls]; exact hrd) (hq _ _ _ _ _ _ h hr hd) _
    · rename_i hne
      have lt_of : ∀ i, i ∈ readyV ls 0 ops.toList → i < ops.size ∧ ∀ x, memN (i :: ls) x = true → x < ops.size := fun i hi => by
        rw [← ready_eq ls hls] at hi
        obtain ⟨_, o, ho, _⟩ := mem_ready.1 hi
        have := (Array.getElem?_eq_some_iff.1 ho).1
        refine ⟨this, fun x hx => ?_⟩
        simp only [memN, Bool.or_eq_true] at hx
        rcases hx with hx | hx
        · rw [← eqN_true hx]; exact this
        · exact hls x hx
      have pick : ∀ {s : St} {p : Prop}, s.t = [] → Rl P c (z.mark ⟨w, F, β⟩) F β s a.tmps w → pickE c ops.toList T s (fun i s' => runAny P c ops.toList T fuel (i :: ls) s' K) (readyV ls 0 ops.toList) = some p → p → wpAnyH P .any ops Q (Sm T w F β) (fuel + 1) (Lof ops.size ls) a w := fun {s p} ht hr hp h => by
        obtain ⟨i, o, h1, h2, h3⟩ := pickE_sound h _ hp
        obtain ⟨v, s', g1, g2, g3, g4⟩ := takeE_sound hr h3 h
        obtain ⟨hi, hls'⟩ := lt_of i h1
        have hrdy : i ∈ Region.ready .any ops (Lof ops.size ls) := by rw [ready_eq ls hls]; exact h1
        refine wpAnyH_first h2 (noSel_spec hsel) (fun c a w hx => absurd hx (hQ _ _ _)) fuel _ a w (fun j oj hj hne hun hno => free_of hfree h2 hrdy j oj hj hne hun hno) hrdy g1 (Sm.refl _ _ _ _) ?_
        rw [Lof_set hi]
        exact runAny_sound hfree hsel hQ hq fuel (i :: ls) hls' (g3.trans ht) g2 ((put_defers _ _ _).trans hd) g4
      split at h
      · rename_i p hp
        exact pick ht hr hp h
      · obtain ⟨s, hr, ht', h⟩ := tellG_sound _ hr h
        replace ht := ht'.trans ht
        split at h
        · rename_i p hp
          exact pick ht hr hp h
        · refine wpAnyH_all (rs := readyV ls 0 ops.toList) (ready_eq ls hls) hne fun i hi => ?_
          obtain ⟨o, h1, h2⟩ := allE_mem _ h i hi
          obtain ⟨hil, hls'⟩ := lt_of i hi
          refine effS_sound h1 ht hr h2 fun s' F' β' a' w' hk ht' hr' hs hm hd' => ⟨hs, ?_⟩
          rw [Lof_set hil]
          exact wpAnyH_mono hm _ _ _ _ (runAny_sound hfree hsel hQ hq fuel (i :: ls) hls' ht' hr' (hd'.trans hd) hk)

theorem Rl.drew (hr : Rl P c z F β s tm w) : ∃ m, Rl P c (z.mark m) F β s tm { w with drawn := w.drawn + 1 } := by
  obtain ⟨h, _, _⟩ := hr.world (w' := { w with drawn := w.drawn + 1 }) (F' := F) (fun _ _ => rfl) rfl rfl ⟨rfl, .inr (Nat.le_succ _)⟩ (Nat.le_refl _) (fun _ h => h) (fun _ _ h => h) hr.Flt
  exact ⟨z.m, h⟩

theorem runDraw_any {K : St → Prop} {d : List Deferred} (hQ : ∀ c a w, ¬ Q (.panic c) a w) (hq : ∀ s' m F' β' a' w', K s' → Rl P c (z.mark m) F' β' s' a'.tmps w' → a'.defers = d → Q .normal a' w')
    (hr : Rl P c z F β s a.tmps w) (hd : a.defers = d) (h : runDraw P c ops.toList s K) : wpAny P .any ops Q ops.size (Array.replicate ops.size false) a { w with drawn := w.drawn + 1 } := by
  unfold runDraw at h
  obtain ⟨T, h1, h⟩ := h
  simp only [cond_true] at h1 h
  simp only [Bool.and_eq_true] at h1
  obtain ⟨m, hr'⟩ := hr.drew
  have := runAny_sound (z := z) h1.2 h1.1 hQ hq ops.toList.length [] (fun x hx => by simp [memN] at hx) rfl (show Rl P c (z.mark _) F β ⟨s.e, s.o, []⟩ a.tmps _ from hr'.remark) hd h
  rw [Array.length_toList] at this
  rw [← Lof_nil] at this
  exact wpAny_of_held _ _ _ _ this

end
end Go.Vg
/- One state tells less than another. -/
namespace Go.Vg
open Go

section
variable {P : Program} {c : Ctx} {z : From} {F : Nat → Prop} {β : Bt} {s : St} {tm : Array Value} {w : World}

def dropO (s : St) (X : Nat) : St := ⟨subE (spurge X) s.e, subO (spurge X) (oerase s.o X), s.t⟩

/-- An own thing is forgotten. -/
theorem Rl.drop (hr : Rl P c z F β s tm w) {X : Nat} (hX : X < 10000) : ∃ F' β', Rl P c z F' β' (dropO s X) tm w := by
  cases he : olook s.o X with
  | none =>
    -- nothing to forget, but what points to it
    have hbX : β X = none := hr.dom X he
    have hol : ∀ id, olook (subO (spurge X) (oerase s.o X)) id = (olook s.o id).map (Ent.sub (spurge X)) := fun id => by
      rw [olook_subO, olook_oerase]
      by_cases e : id = X
      · rw [if_pos e, e, he]
      · simp [e]
    have hsame : ∀ id e1, id ≠ X → olook s.o id = some e1 → Same w β s.o w β (subO (spurge X) (oerase s.o X)) id id := fun id e1 hne h1 =>
      ⟨rfl, fun cs h => ⟨_, by rw [hol, h]; rfl⟩, fun fx e sz α f l h => ⟨fx, α, f, l, by rw [hol, h]; rfl, rfl, fun b cur hb hc => ⟨cur, hc, rfl⟩⟩, fun α f l h => ⟨α, f, l, by rw [hol, h]; rfl⟩⟩
    have g : ∀ v x, RA w F β s.o v x → RA w F β (subO (spurge X) (oerase s.o X)) v (V.sub (spurge X) x) := fun v x hx => RA.purge (fun _ _ h => h) hsame hx
    obtain ⟨q1, q2, q3, q4, q5, q6⟩ := spurge_safe X
    have old : ∀ id e1, olook (dropO s X).o id = some e1 → ∃ e2, olook s.o id = some e2 := fun id e1 h => by
      simp only [dropO] at h
      rw [hol] at h
      cases h2 : olook s.o id with
      | none => rw [h2] at h; cases h
      | some e2 => exact ⟨e2, rfl⟩
    refine ⟨F, β, { hr with env := fun t => ?_, own := ⟨fun id e1 h1 => ?_, fun id id' b e1 e2 h1 h2 hb1 hb2 => ?_⟩, dom := fun id h => ?_, fresh := fun id e1 b h1 hb => ?_, nw := fun id e1 b h1 hb => ?_, hold := fun id ent0 e1 h0 h1 hp => ?_, mk2 := fun id b hb hlt hm => ?_ }⟩
    · simp only [dropO]; rw [look_subE]; exact (hr.env t).sub g q1 q2 q3 q4 q5 q6
    · simp only [dropO] at h1
      rw [hol] at h1
      simp only [Option.map_eq_some_iff] at h1
      obtain ⟨e2, h2, rfl⟩ := h1
      exact EntOk.sub (fun _ _ h => h) g rfl (fun b hb => ⟨rfl, ((hr.own.ent id e2 h2).blk hb).1⟩) (hr.own.ent id e2 h2)
    · obtain ⟨e3, h3⟩ := old id e1 h1
      obtain ⟨e4, h4⟩ := old id' e2 h2
      exact hr.own.inj id id' b e3 e4 h3 h4 hb1 hb2
    · simp only [dropO] at h
      rw [hol] at h
      simp only [Option.map_eq_none_iff] at h
      exact hr.dom id h
    · obtain ⟨e3, h3⟩ := old id e1 h1
      exact hr.fresh id e3 b h3 hb
    · obtain ⟨e3, h3⟩ := old id e1 h1
      exact hr.nw id e3 b h3 hb
    · obtain ⟨e3, h3⟩ := old id e1 h1
      have hne : id ≠ X := fun e => by subst e; rw [he] at h3; cases h3
      exact (hr.hold id ent0 e3 h0 h3 hp).trans (hsame id e3 hne h3)
    · obtain ⟨h1, h2⟩ := hr.mk2 id b hb hlt hm
      refine ⟨h1, h2.imp_right fun ⟨h3, ent, h4⟩ => ⟨h3, _, by simp only [dropO]; rw [hol, h4]; rfl⟩⟩
  | some ent =>
    refine ⟨fun b => F b ∧ β X ≠ some b, fun id => if id = X then none else β id, ?_⟩
    have hd : ∀ v x, RD w F v x → RD w (fun b => F b ∧ β X ≠ some b) v x := hd_of (fun _ _ _ => rfl) (fun _ _ h => h.1) (Nat.le_refl _)
    have hol : ∀ id, olook (subO (spurge X) (oerase s.o X)) id = if id = X then none else (olook s.o id).map (Ent.sub (spurge X)) := fun id => by
      rw [olook_subO, olook_oerase]
      by_cases e : id = X <;> simp [e]
    have hsame : ∀ id e1, id ≠ X → olook s.o id = some e1 → Same w β s.o w (fun id => if id = X then none else β id) (subO (spurge X) (oerase s.o X)) id id := fun id e1 hne h1 =>
      ⟨by simp [hne], fun cs h => ⟨_, by rw [hol, if_neg hne, h]; rfl⟩, fun fx' e' sz' α' f' l' h => ⟨fx', α', f', l', by rw [hol, if_neg hne, h]; rfl, rfl, fun b cur hb hc => ⟨cur, hc, rfl⟩⟩, fun α f l h => ⟨α, f, l, by rw [hol, if_neg hne, h]; rfl⟩⟩
    have g : ∀ v x, RA w F β s.o v x → RA w (fun b => F b ∧ β X ≠ some b) (fun id => if id = X then none else β id) (subO (spurge X) (oerase s.o X)) v (V.sub (spurge X) x) := fun v x hx => RA.purge hd hsame hx
    obtain ⟨s1, s2, s3, s4, s5, s6⟩ := spurge_safe X
    have hzb : ∀ b, β X = some b → z.w.heap.size ≤ b := fun b hb => hr.nwl X _ b hX he hb
    have hblk : ∀ id e0 b, id ≠ X → olook s.o id = some e0 → β id = some b → F b ∧ β X ≠ some b := fun id e0 b hne h1 hb =>
      ⟨((hr.own.ent id e0 h1).blk hb).1, fun e => hne (hr.own.inj id X b e0 _ h1 he hb e)⟩
    have old : ∀ id e1, olook (dropO s X).o id = some e1 → id ≠ X ∧ ∃ e2, olook s.o id = some e2 := fun id e1 h => by
      simp only [dropO] at h
      rw [hol] at h
      by_cases e : id = X
      · rw [if_pos e] at h; cases h
      · rw [if_neg e] at h
        cases h2 : olook s.o id with
        | none => rw [h2] at h; cases h
        | some e2 => exact ⟨e, e2, rfl⟩
    refine { n := hr.n, env := fun t => ?_, own := ⟨fun id e1 h1 => ?_, fun id id' b e1 e2 h1 h2 hb1 hb2 => ?_⟩, F0F := fun b h => ⟨hr.F0F b h, fun e => by have := hzb b e; have := hr.zlt b h; omega⟩, Fnew := fun b hb h => hr.Fnew b hb h.1, Flt := fun b h => hr.Flt b h.1,
             dom := fun id h => ?_, fresh := fun id e1 b h1 hb => ?_, keep := hr.keep, glob := ⟨fun gg cs hg => hd _ _ (hr.glob.ok gg cs hg)⟩, tab := hr.tab, eqs := hr.eqs, low := hr.low, pins := hr.pins, zlt := hr.zlt, nw := fun id e1 b h1 hb => ?_, hold := fun id ent0 e1 h0 h1 hp => ?_,
             mk0 := hr.mk0, mk1 := fun b hb hn => let ⟨h1, h2⟩ := hr.mk1 b hb hn; ⟨h1, fun h => h2 h.1⟩, mk2 := fun id b hb hlt hm => ?_,
             prot := fun k o h => let ⟨h1, h2, h3⟩ := hr.prot k o h; ⟨⟨h1, h3 X⟩, h2, fun id hb => by
               by_cases e : id = X
               · rw [if_pos e] at hb; cases hb
               · rw [if_neg e] at hb; exact h3 id hb⟩ }
    · simp only [dropO]; rw [look_subE]; exact (hr.env t).sub g s1 s2 s3 s4 s5 s6
    · obtain ⟨hne, e2, h2⟩ := old id e1 h1
      simp only [dropO] at h1
      rw [hol, if_neg hne, h2] at h1
      simp only [Option.map_some, Option.some.injEq] at h1
      subst h1
      exact EntOk.sub hd g (by simp [hne]) (fun b hb => ⟨rfl, hblk id e2 b hne h2 hb⟩) (hr.own.ent id e2 h2)
    · obtain ⟨n1, e3, h3⟩ := old id e1 h1
      obtain ⟨n2, e4, h4⟩ := old id' e2 h2
      simp only [n1, n2, if_false] at hb1 hb2
      exact hr.own.inj id id' b e3 e4 h3 h4 hb1 hb2
    · simp only [dropO] at h
      rw [hol] at h
      by_cases e : id = X
      · simp [e]
      · rw [if_neg e] at h
        simp only [Option.map_eq_none_iff] at h
        simp only [e, if_false]
        exact hr.dom id h
    · obtain ⟨n1, e3, h3⟩ := old id e1 h1
      simp only [n1, if_false] at hb
      exact hr.fresh id e3 b h3 hb
    · obtain ⟨n1, e3, h3⟩ := old id e1 h1
      simp only [n1, if_false] at hb
      exact hr.nw id e3 b h3 hb
    · obtain ⟨n1, e3, h3⟩ := old id e1 h1
      exact (hr.hold id ent0 e3 h0 h3 hp).trans (hsame id e3 n1 h3)
    · obtain ⟨h1, h2⟩ := hr.mk2 id b hb hlt hm
      refine ⟨h1, ?_⟩
      rcases h2 with h2 | ⟨h2, ent1, h3⟩
      · exact .inl fun h => h2 h.1
      · by_cases e : id = X
        · exact .inl fun h => h.2 (e ▸ h2)
        · exact .inr ⟨by simp [e, h2], _, by simp only [dropO]; rw [hol, if_neg e, h3]; rfl⟩

theorem ra_addNil {o : Own} {X : Nat} (hn : olook o X = none) (fx : Bool) (e : TypeId) (sz : Nat) {α : Type} (f : α → V) {v : Value} {x : V} (hx : RA w F β o v x) : RA w F β ((X, .arr fx e sz f []) :: o) v x := by
  have hol : ∀ id, olook ((X, .arr fx e sz f []) :: o) id = if id = X then some (.arr fx e sz f []) else olook o id := fun id => by
    simp only [olook]
    by_cases h : id = X
    · subst h; simp
    · rw [beq_false h]; simp [h]
  have hne : ∀ id e1, olook o id = some e1 → id ≠ X := fun id e1 h e => by subst e; rw [hn] at h; cases h
  exact RA.stay (fun _ _ h => h) (fun id e1 h1 => ⟨rfl, fun cs h => ⟨cs, by rw [hol, if_neg (hne id _ h)]; exact h⟩, fun fx' e' sz' α' f' l' h => ⟨fx', α', f', l', by rw [hol, if_neg (hne id _ h)]; exact h, rfl, fun b cur hb hc => ⟨cur, hc, rfl⟩⟩, fun α f l h => ⟨α, f, l, by rw [hol, if_neg (hne id _ h)]; exact h⟩⟩) hx

/-- A list that is empty, and nowhere yet. -/
theorem Rl.addNil (hr : Rl P c z F β s tm w) {X : Nat} (hX : X < 10000) (hn : olook s.o X = none) (fx : Bool) (e : TypeId) (sz : Nat) {α : Type} (f : α → V) : Rl P c z F β ⟨s.e, (X, .arr fx e sz f []) :: s.o, s.t⟩ tm w := by
  have hol : ∀ id, olook ((X, .arr fx e sz f []) :: s.o) id = if id = X then some (.arr fx e sz f []) else olook s.o id := fun id => by
    simp only [olook]
    by_cases h : id = X
    · subst h; simp
    · rw [beq_false h]; simp [h]
  have hbX : β X = none := hr.dom X hn
  have hne : ∀ id e1, olook s.o id = some e1 → id ≠ X := fun id e1 h e => by subst e; rw [hn] at h; cases h
  have hsame : ∀ id e1, olook s.o id = some e1 → Same w β s.o w β ((X, .arr fx e sz f []) :: s.o) id id := fun id e1 h1 =>
    ⟨rfl, fun cs h => ⟨cs, by rw [hol, if_neg (hne id _ h)]; exact h⟩, fun fx' e' sz' α' f' l' h => ⟨fx', α', f', l', by rw [hol, if_neg (hne id _ h)]; exact h, rfl, fun b cur hb hc => ⟨cur, hc, rfl⟩⟩, fun α f l h => ⟨α, f, l, by rw [hol, if_neg (hne id _ h)]; exact h⟩⟩
  have g : ∀ v x, RA w F β s.o v x → RA w F β ((X, .arr fx e sz f []) :: s.o) v x := fun v x hx => RA.stay (fun _ _ h => h) hsame hx
  have g' : ∀ v x, RA w F β s.o v x → RA w F β ((X, .arr fx e sz f []) :: s.o) v (V.sub sid x) := fun v x hx => by rw [V.sub_id]; exact g v x hx
  have old : ∀ id e1 b, olook ((X, .arr fx e sz f []) :: s.o) id = some e1 → β id = some b → olook s.o id = some e1 ∧ id ≠ X := fun id e1 b h hb => by
    rw [hol] at h
    by_cases e : id = X
    · subst e; rw [hbX] at hb; cases hb
    · rw [if_neg e] at h; exact ⟨h, e⟩
  refine { hr with env := fun t => ?_, own := ⟨fun id e1 h1 => ?_, fun id id' b e1 e2 h1 h2 hb1 hb2 => ?_⟩, dom := fun id h => ?_, fresh := fun id e1 b h1 hb => ?_, nw := fun id e1 b h1 hb => ?_, hold := fun id ent0 e1 h0 h1 hp => ?_, mk2 := fun id b hb hlt hm => ?_ }
  · have := (hr.env t).sub (σ := sid) g' (by simp [sid]) (by simp [sid]) (by simp [sid]) (by simp [sid]) (by simp [sid]) (by simp [sid])
    rwa [V.sub_id] at this
  · simp only at h1
    rw [hol] at h1
    by_cases e : id = X
    · rw [if_pos e] at h1; cases h1
      exact .inl ⟨by rw [e]; exact hbX, rfl⟩
    · rw [if_neg e] at h1
      have := EntOk.sub (σ := sid) (o' := (X, .arr fx _ sz f []) :: s.o) (fun _ _ h => h) g' rfl (fun b hb => ⟨rfl, ((hr.own.ent id e1 h1).blk hb).1⟩) (hr.own.ent id e1 h1)
      have e : Ent.sub sid e1 = e1 := by cases e1 <;> simp [Ent.sub, V.subl_id]
      rwa [e] at this
  · exact hr.own.inj id id' b e1 e2 (old id e1 b h1 hb1).1 (old id' e2 b h2 hb2).1 hb1 hb2
  · simp only at h
    rw [hol] at h
    by_cases e : id = X
    · rw [if_pos e] at h; cases h
    · rw [if_neg e] at h; exact hr.dom id h
  · exact hr.fresh id e1 b (old id e1 b h1 hb).1 hb
  · exact hr.nw id e1 b (old id e1 b h1 hb).1 hb
  · have hx : id ≠ X := fun e => by have := hr.low id ent0 h0; omega
    simp only at h1
    rw [hol, if_neg hx] at h1
    exact (hr.hold id ent0 e1 h0 h1 hp).trans (hsame id e1 h1)
  · obtain ⟨h1, h2⟩ := hr.mk2 id b hb hlt hm
    refine ⟨h1, h2.imp_right fun ⟨h3, ent, h4⟩ => ⟨h3, ent, by simp only; rw [hol, if_neg (hne id _ h4)]; exact h4⟩⟩

/-- All is told otherwise, place by place. -/
theorem Rl.retell (hr : Rl P c z F β s tm w) {s' : St} (ht : s'.t = s.t) (hn : ∀ id, olook s.o id = none → olook s'.o id = none) (ho : ∀ id e, olook s.o id = some e → ∃ e', olook s'.o id = some e' ∧ EntLe s'.o e e') (he : ∀ t, LeP s'.o (look s.e t) (look s'.e t)) : Rl P c z F β s' tm w := by
  have old : ∀ id e', olook s'.o id = some e' → ∃ e, olook s.o id = some e ∧ EntLe s'.o e e' := fun id e' h => by
    cases h1 : olook s.o id with
    | none => rw [hn id h1] at h; cases h
    | some e =>
      obtain ⟨e2, h2, h3⟩ := ho id e h1
      rw [h] at h2; cases h2
      exact ⟨e, rfl, h3⟩
  have hsame : ∀ id e1, olook s.o id = some e1 → Same w β s.o w β s'.o id id := fun id e1 h1 => by
    obtain ⟨e', h2, h3⟩ := ho id e1 h1
    refine ⟨rfl, fun cs h => ?_, fun fx e sz α f l h => ?_, fun α f l h => ?_⟩
    · rw [h1] at h; cases h
      cases h3 with
      | same => exact ⟨cs, h2⟩
      | var xs ys h => exact ⟨ys, h2⟩
    rotate_left
    · rw [h1] at h; cases h
      cases h3 with
      | same => exact ⟨_, _, _, h2⟩
      | map f l l' h => exact ⟨_, _, _, h2⟩
    · rw [h1] at h; cases h
      cases h3 with
      | same => exact ⟨fx, α, f, l, h2, rfl, fun b cur hb hc => ⟨cur, hc, rfl⟩⟩
      | arr fx e sz f l l' h => exact ⟨fx, α, f, l', h2, by rw [h], fun b cur hb hc => ⟨cur, hc, rfl⟩⟩
      | arr' fx e sz f f' l l' hl h => exact ⟨fx, _, f', l', h2, hl.symm, fun b cur hb hc => ⟨cur, hc, rfl⟩⟩
      | pin e sz f l l' h => exact ⟨true, α, f, l', h2, by rw [h], fun b cur hb hc => ⟨cur, hc, rfl⟩⟩
      | unpin e sz f l l' h => exact ⟨false, α, f, l', h2, by rw [h], fun b cur hb hc => ⟨cur, hc, rfl⟩⟩
  have g : ∀ v x, RA w F β s.o v x → RA w F β s'.o v x := fun v x hx => RA.stay (fun _ _ h => h) hsame hx
  have g' : ∀ v x, RA w F β s.o v x → RA w F β s'.o v (V.sub sid x) := fun v x hx => by rw [V.sub_id]; exact g v x hx
  refine { hr with env := fun t => ?_, own := ⟨fun id e1 h1 => ?_, fun id id' b e1 e2 h1 h2 hb1 hb2 => ?_⟩, dom := fun id h => ?_, fresh := fun id e1 b h1 hb => ?_, nw := fun id e1 b h1 hb => ?_, hold := fun id ent0 e1 h0 h1 hp => ?_, mk2 := fun id b hb hlt hm => ?_ }
  · refine (he t).re ?_
    have := (hr.env t).sub (σ := sid) g' (by simp [sid]) (by simp [sid]) (by simp [sid]) (by simp [sid]) (by simp [sid]) (by simp [sid])
    rwa [V.sub_id] at this
  · obtain ⟨e2, h2, h3⟩ := old id e1 h1
    have := EntOk.sub (σ := sid) (o' := s'.o) (fun _ _ h => h) g' rfl (fun b hb => ⟨rfl, ((hr.own.ent id e2 h2).blk hb).1⟩) (hr.own.ent id e2 h2)
    have e : Ent.sub sid e2 = e2 := by cases e2 <;> simp [Ent.sub, V.subl_id]
    rw [e] at this
    cases h3 with
    | same => exact this
    | var xs ys h =>
      obtain ⟨b, cs, t, k1, k2, k3, k4, k5, k6⟩ := this
      obtain ⟨m1, m2⟩ := LePl.ra h k4 k6
      exact ⟨b, cs, t, k1, k2, k3, m1, k5, m2⟩
    | arr fx e sz f l l' h => subst h; exact this
    | map f l l' h => subst h; exact this
    | pin e sz f l l' h => subst h; exact this
    | unpin e sz f l l' h => subst h; exact this
    | arr' fx e sz f f' l l' hl h =>
      rcases this with ⟨k1, k2⟩ | ⟨b, cur, k1, k2, k3, k4, k5, k6⟩
      · exact .inl ⟨k1, List.eq_nil_of_length_eq_zero (by rw [← hl, k2]; rfl)⟩
      · refine .inr ⟨b, cur, k1, k2, k3, by rw [← hl]; exact k4, k5, fun i p' hp' => ?_⟩
        have hlt : i < l.length := by rw [hl]; exact (List.getElem?_eq_some_iff.1 hp').1
        have hp : l[i]? = some l[i] := List.getElem?_eq_getElem hlt
        obtain ⟨m1, m2⟩ := k6 i _ hp
        have hv := h i _ p' hp hp'
        refine ⟨by rw [← hv.1]; exact m1, fun j y hj => ?_⟩
        obtain ⟨x, n1, n2⟩ := CEqL.get hv hj
        obtain ⟨cv, n3, n4⟩ := m2 j x n1
        exact ⟨cv, n3, n2 _ _ _ n4⟩
  · obtain ⟨e3, h3, _⟩ := old id e1 h1
    obtain ⟨e4, h4, _⟩ := old id' e2 h2
    exact hr.own.inj id id' b e3 e4 h3 h4 hb1 hb2
  · cases h1 : olook s.o id with
    | none => exact hr.dom id h1
    | some e => obtain ⟨e', h2, _⟩ := ho id e h1; rw [h] at h2; cases h2
  · obtain ⟨e3, h3, _⟩ := old id e1 h1
    exact hr.fresh id e3 b h3 hb
  · obtain ⟨e3, h3, _⟩ := old id e1 h1
    exact hr.nw id e3 b h3 hb
  · obtain ⟨e3, h3, _⟩ := old id e1 h1
    exact (hr.hold id ent0 e3 h0 h3 hp).trans (hsame id e3 h3)
  · obtain ⟨h1, h2⟩ := hr.mk2 id b hb hlt (by rw [← ht]; exact hm)
    exact ⟨h1, h2.imp_right fun ⟨h3, ent, h4⟩ => ⟨h3, let ⟨e', h5, _⟩ := ho id ent h4; ⟨e', h5⟩⟩⟩

end

/-! ### As a condition -/

/-- Own things that are told of no more. -/
def dropF (s : St) (X : Nat) : St :=
  match olook s.o X with
  | some (.arr _ _ sz f l) => ⟨subE (sfrz X (.sl sz f l)) s.e, subO (sfrz X (.sl sz f l)) (oerase s.o X), s.t⟩
  | _ => dropO s X
theorem dropF_arr {s : St} {X : Nat} {fx : Bool} {e : TypeId} {sz : Nat} {α : Type} {f : α → V} {l : List α} (h : olook s.o X = some (.arr fx e sz f l)) : dropF s X = frz1 s X := by
  simp only [dropF, frz1, h]
theorem dropF_t (s : St) (X : Nat) : (dropF s X).t = s.t := by
  unfold dropF
  split <;> rfl
theorem dropF_o (s : St) (X id : Nat) (h : id = X ∨ olook s.o id = none) : olook (dropF s X).o id = none := by
  unfold dropF
  split
  · simp only
    rw [olook_subO, olook_oerase]
    rcases h with h | h
    · simp [h]
    · split
      · rfl
      · rw [h]; rfl
  · simp only [dropO]
    rw [olook_subO, olook_oerase]
    rcases h with h | h
    · simp [h]
    · split
      · rfl
      · rw [h]; rfl
def dropAll (o' : Own) : List Nat → St → St
  | [], s => s
  | x :: r, s => match olook o' x with
    | some _ => dropAll o' r s
    | none => dropAll o' r (dropF s x)
def dropsOk (o' : Own) : List Nat → Bool
  | [] => true
  | x :: r => (match olook o' x with
    | some _ => true
    | none => (ltN x 10000)) && dropsOk o' r
/-- Lists that are told of from now on. -/
def addAll : Own → St → St
  | [], s => s
  | (x, e) :: r, s => match olook s.o x with
    | some _ => addAll r s
    | none => match e with
      | .arr fx t sz f _ => addAll r ⟨s.e, (x, .arr fx t sz f []) :: s.o, s.t⟩
      | .var _ => addAll r s
      | .map _ _ => addAll r s
def addsOk : Own → St → Bool
  | [], _ => true
  | (x, e) :: r, s => match olook s.o x with
    | some _ => addsOk r s
    | none => match e with
      | .arr fx t sz f _ => (ltN x 10000) && addsOk r ⟨s.e, (x, .arr fx t sz f []) :: s.o, s.t⟩
      | .var _ => false
      | .map _ _ => false
def leE (o' : Own) (e : Env) : Env → Prop
  | [] => True
  | (k, y) :: r => LeP o' (look e k) y ∧ leE o' e r
def leSt0 (s s' : St) : Prop :=
  let s1 := dropAll s'.o (oids s.o) s
  bif dropsOk s'.o (oids s.o) && addsOk s'.o s1 then
    let s2 := addAll s'.o s1
    leO s'.o s2.o s'.o ∧ leE s'.o s2.e s'.e
  else False
/-- One state may be told as another. -/
def leSt (s s' : St) : Prop :=
  match s'.t with
  | [] => leSt0 ⟨s.e, s.o, []⟩ s'
  | _ => False

section
variable {P : Program} {c : Ctx} {z : From} {F : Nat → Prop} {β : Bt} {s : St} {tm : Array Value} {w : World}

theorem dropAll_sound (o' : Own) : ∀ (l : List Nat) {F : Nat → Prop} {β : Bt} {s : St}, dropsOk o' l = true → Rl P c z F β s tm w → ∃ F' β', Rl P c z F' β' (dropAll o' l s) tm w
  | [], F, β, s, _, hr => ⟨F, β, hr⟩
  | x :: r, F, β, s, h, hr => by
    simp only [dropsOk, Bool.and_eq_true] at h
    simp only [dropAll]
    cases hx : olook o' x with
    | some e => exact dropAll_sound o' r h.2 hr
    | none =>
      rw [hx] at h
      have hlt : x < 10000 := by simpa using h.1
      have : ∃ F' β', Rl P c z F' β' (dropF s x) tm w := by
        cases he : olook s.o x with
        | none => simp only [dropF, he]; exact hr.drop hlt
        | some e => cases e with
          | var cs => simp only [dropF, he]; exact hr.drop hlt
          | map f l => simp only [dropF, he]; exact hr.drop hlt
          | arr fx t sz f l =>
            obtain ⟨F1, β1, h1, _⟩ := hr.freeze (X := x) hlt
            rw [dropF_arr he]
            exact ⟨F1, β1, h1⟩
      obtain ⟨F', β', hr'⟩ := this
      exact dropAll_sound o' r h.2 hr'
theorem addAll_sound : ∀ (l : Own) {s : St}, addsOk l s = true → Rl P c z F β s tm w → Rl P c z F β (addAll l s) tm w
  | [], s, _, hr => hr
  | (x, e) :: r, s, h, hr => by
    simp only [addsOk] at h
    simp only [addAll]
    cases hx : olook s.o x with
    | some e' => rw [hx] at h; exact addAll_sound r h hr
    | none =>
      rw [hx] at h
      cases e with
      | var cs => cases h
      | map => cases h
      | arr fx t sz f l =>
        simp only [Bool.and_eq_true] at h
        exact addAll_sound r h.2 (hr.addNil (by simpa using h.1) hx fx t sz f)

theorem leE_spec {o' : Own} {e : Env} : ∀ (l : Env), leE o' e l → ∀ t, LeP o' (look e t) (look l t)
  | [], _, t => by simp only [look]; exact .junk _
  | (k, y) :: r, h, t => by
    simp only [leE] at h
    simp only [look]
    cases hb : (eqN k t) with
    | true =>
      have := eqN_true hb
      subst this
      exact h.1
    | false => exact leE_spec r h.2 t

theorem dropAll_none (o' : Own) : ∀ (l : List Nat) (s : St) (x : Nat), (x ∈ l ∨ olook s.o x = none) → olook o' x = none → olook (dropAll o' l s).o x = none
  | [], s, x, h, ho => by simpa [dropAll] using h
  | y :: r, s, x, h, ho => by
    simp only [dropAll]
    by_cases e : x = y
    · subst e
      rw [ho]
      exact dropAll_none o' r _ x (.inr (dropF_o _ _ _ (.inl rfl))) ho
    · have h' : x ∈ r ∨ olook s.o x = none := by
        rcases h with h | h
        · rcases List.mem_cons.1 h with h | h
          · exact absurd h e
          · exact .inl h
        · exact .inr h
      cases olook o' y with
      | some _ => exact dropAll_none o' r s x h' ho
      | none => exact dropAll_none o' r _ x (h'.imp_right fun h => dropF_o _ _ _ (.inr h)) ho
theorem addAll_none : ∀ (l : Own) (s : St) (x : Nat), olook s.o x = none → olook l x = none → olook (addAll l s).o x = none
  | [], s, x, h, _ => h
  | (y, e) :: r, s, x, h, hl => by
    simp only [olook] at hl
    have hyx : (eqN y x) = false := by
      cases hb : (eqN y x) with
      | false => rfl
      | true => rw [hb] at hl; cases hl
    rw [hyx] at hl
    simp only [addAll]
    cases olook s.o y with
    | some _ => exact addAll_none r s x h hl
    | none =>
      cases e with
      | var _ => exact addAll_none r s x h hl
      | map _ _ => exact addAll_none r s x h hl
      | arr fx t sz f l => exact addAll_none r _ x (by simp only [olook, hyx]; exact h) hl
theorem dropAll_t (o' : Own) : ∀ (l : List Nat) (s : St), (dropAll o' l s).t = s.t
  | [], s => rfl
  | x :: r, s => by
    simp only [dropAll]
    cases olook o' x with
    | some _ => exact dropAll_t o' r s
    | none => rw [dropAll_t o' r _, dropF_t]
theorem addAll_t : ∀ (l : Own) (s : St), (addAll l s).t = s.t
  | [], s => rfl
  | (x, e) :: r, s => by
    simp only [addAll]
    cases olook s.o x with
    | some _ => exact addAll_t r s
    | none => cases e with
      | var _ => exact addAll_t r s
      | map _ _ => exact addAll_t r s
      | arr _ _ _ _ _ => exact addAll_t r _

theorem leSt0_sound {s' : St} (h : leSt0 s s') (ht : s'.t = s.t) (hr : Rl P c z F β s tm w) : ∃ F' β', Rl P c z F' β' s' tm w := by
  simp only [leSt0] at h
  obtain ⟨h0, h1, h2⟩ := bif_true h
  simp only [Bool.and_eq_true] at h0
  obtain ⟨F', β', hr1⟩ := dropAll_sound s'.o (oids s.o) h0.1 hr
  have hr2 := addAll_sound s'.o h0.2 hr1
  refine ⟨F', β', hr2.retell (by rw [addAll_t, dropAll_t, ht]) (fun id hid => ?_) (fun id e he => ?_) (leE_spec _ h2)⟩
  · cases hx : olook s'.o id with
    | none => rfl
    | some e => obtain ⟨e1, e2, k1, _⟩ := leO_spec _ h1 id e hx; rw [hid] at k1; cases k1
  · cases hx : olook s'.o id with
    | some e' =>
      obtain ⟨e1, e2, k1, k2, k3⟩ := leO_spec _ h1 id e' hx
      rw [he] at k1; cases k1
      rw [hx] at k2; cases k2
      exact ⟨e', rfl, k3⟩
    | none =>
      have : olook (addAll s'.o (dropAll s'.o (oids s.o) s)).o id = none := by
        refine addAll_none _ _ _ (dropAll_none _ _ _ _ ?_ hx) hx
        cases h3 : olook s.o id with
        | none => exact .inr rfl
        | some e => exact .inl (olook_erase_ids h3)
      rw [he] at this; cases this

theorem leSt_sound {s' : St} (h : leSt s s') (hr : Rl P c z F β s tm w) : ∃ m F' β', Rl P c (z.mark m) F' β' s' tm w := by
  simp only [leSt] at h
  split at h
  · rename_i ht
    obtain ⟨F', β', hr'⟩ := leSt0_sound h ht hr.remark
    exact ⟨_, F', β', hr'⟩
  · exact h.elim

end
end Go.Vg
/- Code in a round of a range over a function: what is shown of code of a function is so there, too. -/
namespace Go.Vg
open Go

/-- A fence that keeps nothing out: for a function's frames, or for a round's. -/
def FR (r : Option Nat) : Fence := { Fence.wide with round := r }

def noDefer (o : Oper) : Bool := match o.op with
  | .defer _ => false
  | _ => true
theorem noDefer_spec {o : Oper} (h : noDefer o = true) (c : Call) : o.op ≠ .defer c := fun e => by simp [noDefer, e] at h

section
variable {P : Program} {r : Option Nat} {n : Nat} {ops : Array Oper} {Q : Exit → Act → World → Prop} {md : Region.Mode}

theorem rowsIn_wide {row : String} {args : Array Value} {w : World} {R : Value → World → Prop} (h : Rows P row args w R) : RowsIn (FR r) n P row args w R := fun c cs _ =>
  let ⟨v, w', q, s⟩ := h c cs
  ⟨v, w', q, (stepsIn_wide (P := P)).2 s⟩
theorem callsIn_fr {f : FuncId} {args : Array Value} {w : World} {R : Ending → World → Prop} (h : Calls P f args w R) : CallsIn (FR r) n P f args w R :=
  have := (callsIn_wide (n := n)).2 h
  this

theorem oper_in {o : Oper} {a : Act} {w : World} {K : Act → World → Prop} (hd : r = none ∨ noDefer o = true) (hQ : ∀ a w, ¬ Q .outgrown a w) (h : o.wp P a w K Q) : o.wpIn (FR r) n P a w K Q := by
  refine ⟨fun _ _ => trivial, ?_⟩
  have e : Oper.semAt (FR r).round a.eval o = execOp a.eval o := by
    rcases hd with rfl | hd
    · rfl
    · exact Oper.semAt_eq _ _ _ (noDefer_spec hd)
  rw [e]
  unfold Oper.wp at h
  generalize (execOp a.eval o).run P w = q at *
  cases q with
  | ok x w' =>
    cases x <;> simp only [Oper.upon, Oper.uponIn] at h ⊢
    case value v => exact h
    case skip => exact h
    case defer d => exact h
    case enter f args =>
      refine ⟨fun hd => by simp [FR, Fence.wide] at hd, callsIn_fr (h.mono fun e w'' he => ?_)⟩
      cases e with
      | returned v => exact he
      | panicked c => exact he
      | outgrown => obtain ⟨a, w, he⟩ := he; exact absurd he (hQ a w)
    case row row args => exact ⟨fun hd => by simp [FR, Fence.wide] at hd, rowsIn_wide h⟩
  | halt x w' => cases x <;> simp only [Oper.upon, Oper.uponIn] at h ⊢ <;> exact h

theorem noOut {o : Oper} {a : Act} {w : World} {X : Prop} (hQ : ∀ a w, ¬ Q .outgrown a w) (h : X ∨ (o.asks P a w ∧ LetsOut Q)) : X :=
  h.resolve_right fun ⟨_, a, w, h⟩ => hQ a w h

theorem wpList_in (hQ : ∀ a w, ¬ Q .outgrown a w) : ∀ (l : List Oper) (a : Act) (w : World), (r = none ∨ l.all noDefer = true) → wpList P ops Q l a w → wpListIn (FR r) n P ops Q l a w
  | [], _, _, _, h => h
  | o :: l, a, w, hd, h => by
    have hd1 : r = none ∨ noDefer o = true := hd.imp_right fun h => by simp at h; exact h.1
    have hd2 : r = none ∨ l.all noDefer = true := hd.imp_right fun h => by simp at h; simpa using h.2
    simp only [wpList] at h
    simp only [wpListIn]
    split at h
    · rename_i hw
      rw [if_pos hw]
      exact oper_in hd1 hQ (Oper.wp_mono (fun a w => wpList_in hQ l a w hd2) (noOut hQ h))
    · rename_i hw
      rw [if_neg hw]
      exact ⟨fun _ _ => trivial, wpList_in hQ l _ w hd2 h⟩

theorem wpAny_in (hQ : ∀ a w, ¬ Q .outgrown a w) (hd : r = none ∨ ops.toList.all noDefer = true) : ∀ (fuel : Nat) (ls : Array Bool) (a : Act) (w : World), wpAny P md ops Q fuel ls a w → wpAnyIn (FR r) n P md ops Q fuel ls a w
  | 0, _, _, _, h => h
  | fuel + 1, ls, a, w, h => by
    refine ⟨h.1, fun i hi => ?_⟩
    have h := h.2 i hi
    unfold wpOp at h
    unfold wpOpIn
    cases ho : ops[i]? with
    | none => rw [ho] at h; exact wpAny_in hQ hd fuel _ a w h
    | some o =>
      rw [ho] at h
      have hdo : r = none ∨ noDefer o = true := hd.imp_right fun h => List.all_eq_true.1 h o (by
        have := Array.mem_of_getElem? ho
        simpa using this)
      simp only at h ⊢
      split at h
      · rename_i hw
        rw [if_pos hw]
        exact oper_in hdo hQ (Oper.wp_mono (fun a w => wpAny_in hQ hd fuel _ a w) (noOut hQ h))
      · rename_i hw
        rw [if_neg hw]
        exact ⟨fun _ _ => trivial, wpAny_in hQ hd fuel _ _ w h⟩
end
end Go.Vg
/- Ranges over functions. -/
namespace Go.Vg
open Go Go.RowKit

abbrev Post := Exit → St → Prop
def From.wt (z : From) (m : Mark) (pr : Nat → Obj → Prop) : From := { z with m := m, pr := pr }

section
variable {P : Program} {c : Ctx} {z : From} {F : Nat → Prop} {β : Bt} {s : St} {tm : Array Value} {w : World}

/-- A mark of which no own thing is known. -/
theorem Rl.mark0 (hr : Rl P c z F β s tm w) : Rl P c (z.wt ⟨w, F, fun _ => none⟩ z.pr) F β s tm w :=
  { hr with own := hr.own, fresh := hr.fresh, hold := hr.hold, nw := hr.nw, prot := hr.prot, mk0 := Nat.le_refl _, mk1 := fun b _ hn => ⟨rfl, hn⟩, mk2 := fun id b hb => by cases hb }
theorem Rl.retT (hr : Rl P c z F β s tm w) (hm : ∀ id, z.m.β id = none) (t : List Nat) : Rl P c z F β ⟨s.e, s.o, t⟩ tm w :=
  { hr with own := hr.own, fresh := hr.fresh, hold := hr.hold, nw := hr.nw, mk2 := fun id b hb => by rw [hm] at hb; cases hb }
theorem leSt_sound0 {s' : St} (h : leSt s s') (hr : Rl P c z F β s tm w) (hm : ∀ id, z.m.β id = none) : ∃ F' β', Rl P c z F' β' s' tm w := by
  simp only [leSt] at h
  split at h
  · rename_i ht
    exact leSt0_sound h ht (hr.retT hm [])
  · exact h.elim

/-- What is no own thing, nor data, turns. -/
theorem Rl.flip (hr : Rl P c z F β s tm w) {l : Nat} (hl : F l) (hown : ∀ id, β id ≠ some l) (hz : z.w.heap.size ≤ l) (hmF : z.m.F l ∨ z.m.w.heap.size ≤ l) (hmβ : ∀ id, z.m.β id ≠ some l) (o' : Obj) (pr' : Nat → Obj → Prop)
    (hpr : ∀ k o, pr' k o → (k ≠ l ∧ z.pr k o) ∨ (k = l ∧ o = o')) : Rl P c (z.wt z.m pr') F β s tm (w.putObj l o') := by
  have hlt : l < w.heap.size := hr.Flt l hl
  have hsz : (w.putObj l o').heap.size = w.heap.size := World.putObj_size
  have hk : ∀ b, b ≠ l → (w.putObj l o').heap[b]? = w.heap[b]? := fun b h => World.putObj_heap_other h
  have hd : ∀ v x, RD w F v x → RD (w.putObj l o') F v x := hd_of (fun b _ hn => hk b (fun e => hn (e ▸ hl))) (fun _ _ h => h) (Nat.le_of_eq hsz.symm)
  have hblk : ∀ id e0 b, olook s.o id = some e0 → β id = some b → (w.putObj l o').heap[b]? = w.heap[b]? ∧ F b := fun id e0 b he hb =>
    ⟨hk b (fun e => hown id (e ▸ hb)), ((hr.own.ent id e0 he).blk hb).1⟩
  have hsame : ∀ id ent0, olook s.o id = some ent0 → Same w β s.o (w.putObj l o') β s.o id id := fun id ent0 he => by
    refine ⟨rfl, fun cs h => ⟨cs, h⟩, fun fx e sz α f l h => ⟨fx, α, f, l, h, rfl, fun b cur hb hc => ⟨cur, ?_, rfl⟩⟩, fun α f l h => ⟨α, f, l, h⟩⟩
    rw [(hblk id _ b h hb).1]; exact hc
  have g : ∀ v x, RA w F β s.o v x → RA (w.putObj l o') F β s.o v x := fun v x hx => RA.stay hd hsame hx
  have g' : ∀ v x, RA w F β s.o v x → RA (w.putObj l o') F β s.o v (V.sub sid x) := fun v x hx => by rw [V.sub_id]; exact g v x hx
  refine { n := hr.n, env := fun t => ?_, own := ⟨fun id e0 he => ?_, hr.own.inj⟩, F0F := hr.F0F, Fnew := hr.Fnew, Flt := fun b h => by rw [hsz]; exact hr.Flt b h, dom := hr.dom,
            fresh := hr.fresh, keep := ?_, glob := ⟨fun gg cs hg => hd _ _ (hr.glob.ok gg cs hg)⟩, tab := hr.tab, eqs := hr.eqs, low := hr.low, pins := hr.pins, zlt := hr.zlt, nw := hr.nw, hold := fun id ent0 e1 h0 h1 hp => (hr.hold id ent0 e1 h0 h1 hp).trans (hsame id e1 h1), mk0 := by rw [hsz]; exact hr.mk0,
            mk1 := fun b hb hn => ?_, mk2 := fun id b hb hlt hm => ?_, prot := fun k o h => ?_ }
  · have := (hr.env t).sub (σ := sid) g' (by simp [sid]) (by simp [sid]) (by simp [sid]) (by simp [sid]) (by simp [sid]) (by simp [sid])
    rwa [V.sub_id] at this
  · have := EntOk.sub (σ := sid) (o' := s.o) hd g' rfl (fun b hb => hblk id e0 b he hb) (hr.own.ent id e0 he)
    have e : Ent.sub sid e0 = e0 := by cases e0 <;> simp [Ent.sub, V.subl_id]
    rwa [e] at this
  · refine ⟨hr.keep.os, hr.keep.tape, ⟨hr.keep.output.out, hr.keep.output.drawn⟩, by rw [hsz]; exact hr.keep.size, fun b hb hn => (hk b (fun e => ?_)).trans (hr.keep.block b hb hn)⟩
    have hb : b < z.w.heap.size := hb
    omega
  · obtain ⟨h1, h2⟩ := hr.mk1 b hb hn
    refine ⟨(hk b (fun e => ?_)).trans h1, h2⟩
    rcases hmF with h | h
    · exact hn (e ▸ h)
    · have hb : b < z.m.w.heap.size := hb
      omega
  · obtain ⟨h1, h2⟩ := hr.mk2 id b hb hlt hm
    exact ⟨(hk b (fun e => hmβ id (e ▸ hb))).trans h1, h2⟩
  · rcases hpr k o h with ⟨h1, h2⟩ | ⟨rfl, rfl⟩
    · obtain ⟨h3, h4, h5⟩ := hr.prot k o h2
      exact ⟨h3, (hk k h1).trans h4, h5⟩
    · exact ⟨hl, World.putObj_heap_same hlt, hown⟩

/-- Two new blocks that are no own things, nor data. -/
theorem Rl.lay (hr : Rl P c z F β s tm w) (o1 o2 : Obj) :
    Rl P c (z.wt ⟨(w.alloc o1).alloc o2, fun b => F b ∨ b = w.heap.size ∨ b = w.heap.size + 1, fun _ => none⟩ (fun k o => z.pr k o ∨ (k = w.heap.size ∧ o = o1) ∨ (k = w.heap.size + 1 ∧ o = o2)))
      (fun b => F b ∨ b = w.heap.size ∨ b = w.heap.size + 1) β s tm ((w.alloc o1).alloc o2) := by
  have hsz : ((w.alloc o1).alloc o2).heap.size = w.heap.size + 2 := by simp
  have hk : ∀ b, b < w.heap.size → ((w.alloc o1).alloc o2).heap[b]? = w.heap[b]? := fun b hb => by
    rw [Below.heap_alloc _ _ _ (by simp; omega), Below.heap_alloc _ _ _ hb]
  obtain ⟨h1, _, _⟩ := hr.world (w' := (w.alloc o1).alloc o2) (F' := fun b => F b ∨ b = w.heap.size ∨ b = w.heap.size + 1) hk rfl rfl ⟨rfl, .inr (Nat.le_refl _)⟩ (by omega) (fun b h => .inl h)
    (fun b hb h => h.elim id fun h => by omega) (fun b h => by
      rw [hsz]
      rcases h with h | h | h
      · have := hr.Flt b h; omega
      · omega
      · omega)
  have h2 := h1.mark0
  have hown : ∀ id b, β id = some b → b < w.heap.size := fun id b hb => by
    cases he : olook s.o id with
    | none => rw [hr.dom id he] at hb; cases hb
    | some e =>
      obtain ⟨_, ob, h⟩ := (hr.own.ent id e he).blk hb
      exact blk_lt h
  refine { h2 with own := h2.own, fresh := h2.fresh, hold := h2.hold, nw := h2.nw, prot := fun k o h => ?_ }
  rcases h with h | ⟨rfl, rfl⟩ | ⟨rfl, rfl⟩
  · obtain ⟨q1, q2, q3⟩ := hr.prot k o h
    exact ⟨.inl q1, (hk k (blk_lt q2)).trans q2, q3⟩
  · refine ⟨.inr (.inl rfl), ?_, fun id hb => by have := hown id _ hb; omega⟩
    rw [Below.heap_alloc _ _ _ (by simp)]
    exact World.alloc_heap_new w o
  · refine ⟨.inr (.inr rfl), ?_, fun id hb => by have := hown id _ hb; omega⟩
    have := World.alloc_heap_new (w.alloc o1) o
    simpa using this
end
end Go.Vg
/- A range over a function: what it is done by. -/
namespace Go.Vg
open Go Go.RowKit

/-- What an iterator does: it hands these over, one after another, till it is told to stop. -/
def SeqA (P : Program) (gf : FuncId) (caps : List V) (ES : List (List V)) : Prop :=
  (∀ args w, (callFunc gf args).run P w = .ok (.enter gf args) w) ∧
  ∀ (w : World) (F : Nat → Prop) (lb : Array Value), lb.size = caps.length → (∀ (i : Nat) (v : Value) (x : V), lb[i]? = some v → caps[i]? = some x → RD w F v x) →
  ∀ (l : Nat) (J : Nat → World → Prop) (Jx : World → Prop),
    (∀ k W W', J k W → Keep (fun _ => False) W W' → J k W') → (∀ W W', Jx W → Keep (fun _ => False) W W' → Jx W') →
    (∀ k W, J k W → w.heap.size ≤ W.heap.size ∧ ∀ b, b < w.heap.size → ¬ F b → W.heap[b]? = w.heap[b]?) →
    (∀ k es (args : Array Value) W, ES[k]? = some es → J k W → args.size = es.length → (∀ F1 : Nat → Prop, (∀ b, b < w.heap.size → F1 b → F b) → ∀ (i : Nat) (v : Value) (x : V), args[i]? = some v → es[i]? = some x → RD W F1 v x) →
      ∀ n, YieldAt Fence.wide n P l args W fun e W' => (e = .returned (.bool true) ∧ J (k + 1) W') ∨ (e = .returned (.bool false) ∧ Jx W')) →
    J 0 w → Calls P gf (#[.func (.yield l) #[] #[]] ++ lb) w fun e W' => (∃ v, e = .returned v) ∧ (J ES.length W' ∨ Jx W')

/-- By which answer a round is left: 0: it goes on; 1: the function returns; from 2 on: an exit. -/
def exitNo : Exit → Option Nat
  | .normal => some 0
  | .ret => some 1
  | .exit id => some (id + 2)
  | _ => none
def noExit : Nat → Exit
  | 0 => .normal
  | 1 => .ret
  | n + 2 => .exit n
def numV (b : Nat) : Value := .int .i64 b
/-- A round, walked: the assignments, then the body: by which answer it is left. -/
def RC (P : Program) (n l : Nat) (rc : Loop) (assign body : Code) (vs : Array Value) (w : World) (R : Ending → World → Prop) : Prop :=
  assign.wpIn (FR (some l)) n P (Exit.then (fun a₁ w₁ => ∃ w₂, (Instr.beginRound l).run P w₁ = .ok () w₂ ∧ body.wpIn (FR (some l)) n P (fun e _ w' => match exitNo e with
    | some b => w'.heap[l]? = some (.loop { rc with state := .busy }) ∧ R (.returned (numV b)) (w'.putObj l (.loop rc))
    | none => False) a₁ w₂) (fun _ _ _ => False)) { tmps := vs, defers := [] } w
theorem RC.mono {P : Program} {n l : Nat} {rc : Loop} {assign body : Code} {vs : Array Value} {w : World} {R R' : Ending → World → Prop} (h : RC P n l rc assign body vs w R) (hr : ∀ e w, R e w → R' e w) : RC P n l rc assign body vs w R' :=
  wpIn_mono h fun e a w he => by
    cases e with
    | normal =>
      obtain ⟨w2, h1, h2⟩ := he
      refine ⟨w2, h1, wpIn_mono h2 fun e a w he => ?_⟩
      cases hx : exitNo e with
      | none => rw [hx] at he; exact he.elim
      | some b => rw [hx] at he; exact ⟨he.1, hr _ _ he.2⟩
    | _ => exact he

/-- A round: what is handed to it, what comes back; how it is left. -/
def RoundA (P : Program) (G : Glb) (assign body : Code) (args : List V) (oc : Own) (b : Nat) (o1 : Own) : Prop :=
  ∀ (n l : Nat) (rc : Loop) (w : World) (vs : Array Value) (F : Nat → Prop) (β : Bt), w.heap[l]? = some (.loop rc) → rc.state = .ready → F l → (∀ id, β id ≠ some l) → vs.size = args.length → (∀ (i : Nat) (v : Value) (x : V), vs[i]? = some v → args[i]? = some x → RA w F β oc v x) → OwnOk w F β oc → GlbOk G w F →
    (∀ b, F b → b < w.heap.size) → (∀ id, olook oc id = none → β id = none) →
    RC P n l rc assign body vs w (fun e w' => ∃ v r' o' F' β', e = .returned v ∧ (r' = .int .i64 (.lit b) ∧ o' = o1) ∧ (∀ b, F b → F' b) ∧ (∀ b, b < w.heap.size → F' b → F b) ∧ (∀ b, F' b → b < w'.heap.size) ∧
      RA w' F' β' o' v r' ∧ OwnOk w' F' β' o' ∧ (∀ id, olook o' id = none → β' id = none) ∧ Keep (fun b => ∃ id ent, olook oc id = some ent ∧ β id = some b) w w' ∧
      (∀ id ent b, olook o' id = some ent → β' id = some b → w.heap.size ≤ b ∨ ∃ ent', olook oc id = some ent' ∧ β id = some b) ∧
      (∀ id ent0 ent, olook oc id = some ent0 → olook o' id = some ent → pinned ent0 = true → Same w β oc w' β' o' id id))

/-- Slots that a round is begun with. -/
def putPs (c : Ctx) : List Tmp → List V → St → St
  | t :: ps, v :: vs, s => putPs c ps vs (putO c.N s (some t) v)
  | _, _, s => s
def unOpt : V → V
  | .opt _ _ _ => .junk
  | .nb _ => .junk
  | x => x
def slotsV : Nat → Nat → Env → List V
  | _, 0, _ => []
  | i, n + 1, e => unOpt (look e i) :: slotsV (i + 1) n e

/-- A round: 'kn': it goes on; 'kl': it is left. -/
inductive RoundP (P : Program) (c : Ctx) (assign body : Code) (ps : List Tmp) (s : St) (es : List V) (kn : St → Prop) (kl : Exit → St → Prop) : Prop
  | mk (outs : Outs) (args : List V) (oc o1 : Own) (b : Nat)
      (hl : LePl oc (V.subl (srn (kap (insO outs))) (slotsV 0 c.N (putPs c ps es s).e)) args) (hc : ownOk c outs [] s oc o1 = true) (hs : subN (oids (ocOf (insO outs) s (srn (kap (insO outs))))) (oids oc) = true) (ho : leO oc (ocOf (insO outs) s (srn (kap (insO outs)))) oc)
      (hA : RoundA P c.G assign body args oc b o1)
      (hk : match b with
        | 0 => kn (s.after ⟨.int .i64 (.lit b), [], twice (usOf outs o1 (srn (iot outs)))⟩)
        | b + 1 => kl (noExit (b + 1)) (s.after ⟨.int .i64 (.lit (b + 1 : Nat)), [], twice (usOf outs o1 (srn (iot outs)))⟩)) : RoundP P c assign body ps s es kn kl

inductive RangeP (P : Program) (c : Ctx) (g : Operand) (ps : Array Tmp) (assign body : Code) (Q : Post) (s : St) : Prop
  | mk {X : Type} (S : X → St) (φ : Nat → X → Prop) (gf : FuncId) (caps : List V) (ES : List (List V)) (x0 : X) (hg : res s.e [] (evalO c s.e g) = .fn gf [] caps) (hd : isDatal caps = true) (hseq : SeqA P gf caps ES) (h0 : φ 0 x0) (hs : leSt s (S x0))
      (hr : ∀ k es x, ES[k]? = some es → φ k x → es.length = ps.size ∧ isDatal es = true ∧ RoundP P c assign body ps.toList (S x) es (fun s' => ∃ x', φ (k + 1) x' ∧ leSt s' (S x')) (fun e s' => ∃ s2, leSt s' s2 ∧ Q e s2))
      (hq : ∀ x, φ ES.length x → Q .normal (S x)) : RangeP P c g ps assign body Q s

def dmk (D : Nat) : Deferred := { target := .collected D, args := #[] }
def DOk (z : From) (d : List Deferred) (pr : Nat → Obj → Prop) (a : Act) : Prop := (∀ k o, z.pr k o → pr k o) ∧ ∃ Ds : List Nat, a.defers = Ds.map dmk ++ d ∧ Ds.Nodup ∧ ∀ D, D ∈ Ds → pr D (.deferred (some [])) ∧ z.w.heap.size ≤ D
def QS (P : Program) (c : Ctx) (z : From) (d : List Deferred) (Q : Post) (e : Exit) (a : Act) (w : World) : Prop :=
  match e with
  | .panic _ => False
  | .outgrown => False
  | e => ∃ pr, DOk z d pr a ∧ ∃ m F β s, Q e s ∧ Rl P c (z.wt m pr) F β s a.tmps w

section
variable {P : Program} {c : Ctx} {z : From} {F : Nat → Prop} {β : Bt} {s : St} {tm : Array Value} {w : World}

theorem putPs_o : ∀ (ps : List Tmp) (es : List V) (s : St), (putPs c ps es s).o = s.o
  | [], es, s => by cases es <;> rfl
  | t :: ps, [], s => rfl
  | t :: ps, v :: es, s => by
    rw [putPs, putPs_o]
    simp only [putO]
    cases (ltN t c.N) <;> rfl
theorem putPs_rl : ∀ (ps : List Tmp) (es : List V) (us : List Value) {s : St} {tm : Array Value}, Rl P c z F β s tm w → us.length = es.length → (∀ (i : Nat) (v : Value) (x : V), us[i]? = some v → es[i]? = some x → RD w F v x) →
    Rl P c z F β (putPs c ps es s) ((ps.zip us).foldl (fun t q => t.setIfInBounds q.1 q.2) tm) w
  | [], es, us, s, tm, hr, _, _ => by cases es <;> exact hr
  | t :: ps, [], us, s, tm, hr, hl, _ => by cases us <;> first | exact hr | simp at hl
  | t :: ps, v :: es, [], s, tm, hr, hl, _ => by simp at hl
  | t :: ps, v :: es, u :: us, s, tm, hr, hl, h => by
    have h1 := hr.put (some t) (.d u v (h 0 u v rfl rfl)) { tmps := tm, defers := [] } rfl
    simp only [List.zip_cons_cons, List.foldl_cons, putPs]
    refine putPs_rl ps es us h1 (by simpa using hl) (fun i v' x hi hx => h (i + 1) v' x (by simpa using hi) (by simpa using hx))
theorem slotsV_get : ∀ (n i : Nat) (e : Env) (j : Nat) (x : V), (slotsV i n e)[j]? = some x → x = unOpt (look e (i + j))
  | 0, i, e, j, x, h => by simp [slotsV] at h
  | n + 1, i, e, 0, x, h => by simp [slotsV] at h; rw [← h]; rfl
  | n + 1, i, e, j + 1, x, h => by
    simp only [slotsV, List.getElem?_cons_succ] at h
    rw [slotsV_get n (i + 1) e j x h]
    congr 2; omega
theorem slotsV_len : ∀ (n i : Nat) (e : Env), (slotsV i n e).length = n
  | 0, _, _ => rfl
  | n + 1, i, e => by simp [slotsV, slotsV_len n]
theorem slots_ra (hr : Rl P c z F β s tm w) (i : Nat) (u : Value) (x : V) (hi : tm.toList[i]? = some u) (hx : (slotsV 0 c.N s.e)[i]? = some x) : RA w F β s.o u x := by
  have h := hr.env i
  have e : tm.getD i undef = u := by
    rw [Array.getElem?_toList] at hi
    simp [hi]
  rw [e] at h
  rw [slotsV_get _ _ _ _ _ hx, Nat.zero_add]
  cases hl : look s.e i with
  | opt t b v => exact .junk _
  | nb b => exact .junk _
  | _ => rw [hl] at h; exact h
end
end Go.Vg
/- The conditions on a range over a function suffice. -/
namespace Go.Vg
open Go Go.RowKit

section
variable {P : Program} {c : Ctx} {z : From} {F : Nat → Prop} {β : Bt} {s : St} {tm : Array Value} {w : World}

theorem DOk.pr {z : From} {d : List Deferred} {pr pr' : Nat → Obj → Prop} {a : Act} (h : DOk z d pr a) (hp : ∀ k o, pr k o → pr' k o) : DOk z d pr' a :=
  let ⟨h0, Ds, h1, h2, h3⟩ := h
  ⟨fun k o q => hp _ _ (h0 k o q), Ds, h1, h2, fun D hD => ⟨hp _ _ (h3 D hD).1, (h3 D hD).2⟩⟩
theorem putObj_twice (w : World) (l : Nat) (o o' : Obj) : (w.putObj l o).putObj l o' = w.putObj l o' := by simp [World.putObj]
theorem putObj_self {w : World} {l : Nat} {o : Obj} (h : w.heap[l]? = some o) : w.putObj l o = w := by
  obtain ⟨hl, rfl⟩ := Array.getElem?_eq_some_iff.1 h
  have : w.heap.setIfInBounds l w.heap[l] = w.heap := by
    apply Array.ext
    · simp
    · intro i h1 h2
      rw [Array.getElem_setIfInBounds (by simpa using h2)]
      split
      · rename_i e; subst e; rfl
      · rfl
  simp [World.putObj, this]
theorem ra_num {w : World} {F : Nat → Prop} {β : Bt} {o : Own} {v : Value} {b : Nat} (h : RA w F β o v (.int .i64 (.lit b))) : v = numV b := (RA.of_int h).1
/-- What is to be done behind a loop that a round has left. -/
def jumpOf : Exit → Code
  | .exit id => .exit id
  | _ => .ret

theorem zip_foldl (ps : Array Tmp) (args : Array Value) (tm : Array Value) : (ps.zip args).foldl (fun t (p, v) => t.setIfInBounds p v) tm = (ps.toList.zip args.toList).foldl (fun t q => t.setIfInBounds q.1 q.2) tm := by
  rw [← Array.foldl_toList, Array.toList_zip]

theorem ra_lit {v : Value} {b : Bool} {o : Own} (h : RA w F β o v (.bool (.lit b))) : v = .bool b := RA.of_bool (e := .lit b) h

theorem rangeP_sound {n : Nat} {g : Operand} {ps : Array Tmp} {assign body : Code} {Q : Post} {a : Act} {d : List Deferred} {m : Mark} {pr : Nat → Obj → Prop} (h : RangeP P c g ps assign body Q s) (hr : Rl P c (z.wt m pr) F β s a.tmps w) (hd : DOk z d pr a) :
    (Code.rangeFunc g ps assign body).wpIn (FR none) n P (QS P c z d Q) a w := by
  obtain ⟨S, φ, gf, caps, ES, x0, hg, hdat, hseq, h0, hs, hround, hq⟩ := h
  -- the iterator's value
  have hgv := res_ra rfl hr.toRel (by simp) (im := []) g
  rw [hg] at hgv
  obtain ⟨fs, cs, e1, e2, e3, _, e4⟩ := RA.of_fn hgv
  have e2 : fs = #[] := Array.eq_empty_of_size_eq_zero e2
  subst e2
  have hcd : ∀ (i : Nat) (v : Value) (x : V), cs[i]? = some v → caps[i]? = some x → RD w F v x := fun i v x hi hx => (e4 i v x hi hx).data ((isDatal_iff _).1 hdat x (List.mem_of_getElem? hx))
  obtain ⟨F1, β1, hr1⟩ := leSt_sound0 hs hr.mark0 (fun _ => rfl)
  have hzD : z.w.heap.size ≤ w.heap.size := hr.keep.size
  refine wpIn_rangeFunc ?_
  intro fn hfn
  obtain ⟨rec, hrec⟩ : ∃ rec : LoopState → Option Code → Loop, rec = fun st pe => { state := st, pending := pe, fn, tmps := a.tmps, params := ps, assign, body, defers := w.heap.size } := ⟨_, rfl⟩
  have hr2 := hr1.lay (.deferred (some [])) (.loop (rec .ready none))
  obtain ⟨W1, hW1⟩ : ∃ W1, (w.alloc (.deferred (some []))).alloc (.loop (rec .ready none)) = W1 := ⟨_, rfl⟩
  have hsz1 : W1.heap.size = w.heap.size + 2 := by rw [← hW1]; simp
  obtain ⟨F2, hF2⟩ : ∃ F2 : Nat → Prop, (fun b => F1 b ∨ b = w.heap.size ∨ b = w.heap.size + 1) = F2 := ⟨_, rfl⟩
  have hk1 : ∀ b, b < w.heap.size → W1.heap[b]? = w.heap[b]? := fun b hb => by
    rw [← hW1, Below.heap_alloc _ _ _ (by simp; omega), Below.heap_alloc _ _ _ hb]
  have hcd2 : ∀ (i : Nat) (v : Value) (x : V), cs[i]? = some v → caps[i]? = some x → RD W1 F2 v x := fun i v x hi hx =>
    (hcd i v x hi hx).carry fun b hb hn => ⟨hk1 b hb, by
      rw [← hF2]
      rintro (h | h)
      · exact (hr1.mk1 b hb hn).2 h
      · omega, by omega⟩
  rw [hW1, hF2] at hr2
  obtain ⟨l, hl⟩ : ∃ l, w.heap.size + 1 = l := ⟨_, rfl⟩
  obtain ⟨D, hDe⟩ : ∃ D, w.heap.size = D := ⟨_, rfl⟩
  have hDl : D ≠ l := by omega
  -- the protected things, by the record's state
  obtain ⟨pk, hpk⟩ : ∃ pk : Loop → Nat → Obj → Prop, pk = fun rc k o => (pr k o ∨ (k = D ∧ o = .deferred (some []))) ∨ (k = l ∧ o = .loop rc) := ⟨_, rfl⟩
  have pkl : ∀ rc, pk rc l (.loop rc) := fun rc => by rw [hpk]; exact .inr ⟨rfl, rfl⟩
  have prl : ∀ k o, pr k o → k < w.heap.size := fun k o h => blk_lt (hr.prot k o h).2.1
  obtain ⟨m2, hm2⟩ : ∃ m2 : Mark, (⟨W1, F2, fun _ => none⟩ : Mark) = m2 := ⟨_, rfl⟩
  have mF : m2.F = F2 := by rw [← hm2]
  have mW : m2.w = W1 := by rw [← hm2]
  have mβ : ∀ id, m2.β id = none := fun id => by rw [← hm2]
  have hr3 : Rl P c (z.wt m2 (pk (rec .ready none))) F2 β1 (S x0) a.tmps W1 := by
    rw [← hm2]
    exact { hr2 with own := hr2.own, fresh := hr2.fresh, hold := hr2.hold, nw := hr2.nw, prot := fun k o h => hr2.prot k o (by
      have h : pk (rec .ready none) k o := h
      rw [hpk] at h
      rcases h with (h | ⟨h1, h2⟩) | ⟨h1, h2⟩
      · exact .inl h
      · exact .inr (.inl ⟨h1.trans hDe.symm, h2⟩)
      · exact .inr (.inr ⟨h1.trans hl.symm, h2⟩)) }
  -- one record for another
  have flipTo : ∀ {rc rc' : Loop} {F β s tm W}, Rl P c (z.wt m2 (pk rc)) F β s tm W → Rl P c (z.wt m2 (pk rc')) F β s tm (W.putObj l (.loop rc')) := fun {rc rc' F β s tm W} h => by
    obtain ⟨q1, q2, q3⟩ := h.prot l _ (pkl rc)
    refine h.flip q1 q3 (by show z.w.heap.size ≤ l; omega) (.inl (by show m2.F l; rw [mF, ← hF2]; exact .inr (.inr hl.symm))) (fun id => by show m2.β id ≠ some l; rw [mβ]; simp) _ _ fun k o hp => ?_
    rw [hpk] at hp
    rcases hp with hp | ⟨rfl, rfl⟩
    · refine .inl ⟨fun e => ?_, by show pk rc k o; rw [hpk]; exact .inl hp⟩
      rcases hp with hp | ⟨hp, _⟩
      · have := prl k o hp; omega
      · omega
    · exact .inr ⟨rfl, rfl⟩
  have recAt : ∀ {rc : Loop} {F β s tm W}, Rl P c (z.wt m2 (pk rc)) F β s tm W → W.heap[l]? = some (.loop rc) := fun {rc F β s tm W} h => (h.prot l _ (pkl rc)).2.1
  -- behind the loop
  have behind : ∀ {rc : Loop} {F β s W}, Rl P c (z.wt m2 (pk rc)) F β s a.tmps W → ∀ e, Q e s → (match e with
      | .panic _ => False
      | .outgrown => False
      | _ => True) → QS P c z d Q e { a with defers := dmk D :: a.defers } W := fun {rc F β s W} hrW e hqe he => by
    have : ∃ pr, DOk z d pr { a with defers := dmk D :: a.defers } ∧ ∃ m F β s, Q e s ∧ Rl P c (z.wt m pr) F β s a.tmps W := by
      refine ⟨pk rc, ?_, m2, F, β, s, hqe, hrW⟩
      obtain ⟨g0, Ds, g1, g2, g3⟩ := hd
      refine ⟨fun k o q => by rw [hpk]; exact .inl (.inl (g0 k o q)), D :: Ds, by simp [g1], List.nodup_cons.2 ⟨fun hD => ?_, g2⟩, fun D' hD' => ?_⟩
      · have := prl _ _ (g3 D hD).1; omega
      · rcases List.mem_cons.1 hD' with rfl | hD'
        · exact ⟨by rw [hpk]; exact .inl (.inr ⟨rfl, rfl⟩), by omega⟩
        · exact ⟨by rw [hpk]; exact .inl (.inl (g3 D' hD').1), (g3 D' hD').2⟩
    cases e with
    | panic _ => exact he.elim
    | outgrown => exact he.elim
    | _ => exact this
  refine ⟨l, [dmk D], W1, { target := .fn (.func gf) cs, args := #[.func (.yield l) #[] #[]] }, W1, gf, #[.func (.yield l) #[] #[]] ++ cs, W1, ?_, ?_, fun _ _ => trivial, ?_, fun hd => by simp [FR, Fence.wide] at hd, ?_⟩
  · rw [← hl, ← hDe, ← hW1, hrec]; exact run_enterLoop_outer _ _ _ _ _
  · simp only [resolve, e1]
    simp [go_sem]
  · simp [invoke, go_sem, hseq.1]
  refine callsIn_fr ((hseq.2 W1 F2 cs e3 hcd2 l
    (fun k W => ∃ x F β, φ k x ∧ Rl P c (z.wt m2 (pk (rec .ready none))) F β (S x) a.tmps W)
    (fun W => ∃ b s' F β, Q (noExit (b + 1)) s' ∧ Rl P c (z.wt m2 (pk (rec .done (some (jumpOf (noExit (b + 1))))))) F β s' a.tmps W)
    ?_ ?_ ?_ ?_ ⟨x0, F2, β1, h0, hr3⟩).mono ?_)
  · rintro k W W' ⟨x, F, β, hx, hW⟩ hk
    exact ⟨x, F, β, hx, (hW.world (F' := F) (fun b hb => hk.block b hb (fun h => h)) hk.os hk.tape hk.output hk.size (fun _ h => h) (fun _ _ h => h) (fun b h => Nat.lt_of_lt_of_le (hW.Flt b h) hk.size)).1⟩
  · rintro W W' ⟨b, x, F, β, hx, hW⟩ hk
    exact ⟨b, x, F, β, hx, (hW.world (F' := F) (fun b hb => hk.block b hb (fun h => h)) hk.os hk.tape hk.output hk.size (fun _ h => h) (fun _ _ h => h) (fun b h => Nat.lt_of_lt_of_le (hW.Flt b h) hk.size)).1⟩
  · rintro k W ⟨x, F, β, hx, hW⟩
    have m0 := hW.mk0
    have m1 := hW.mk1
    simp only [From.wt, mW, mF] at m0 m1
    exact ⟨m0, fun b hb hn => (m1 b hb hn).1⟩
  · -- a round
    rintro k es args W hes ⟨x, F, β, hx, hW⟩ hsz hargs nn
    obtain ⟨hlen, hesd, hrd⟩ := hround k es x hes hx
    have hrecW := recAt hW
    have hy := run_yield (P := P) (args := args) hrecW (by rw [hrec]; exact hsz.trans hlen)
    rw [hrec] at hy
    have m1 := hW.mk1
    have hFn := hW.keep
    have hargs' : ∀ (i : Nat) (v : Value) (x : V), args.toList[i]? = some v → es[i]? = some x → RD W F v x := fun i v x hi hx => hargs F (fun b hb hF => Classical.not_not.1 fun hn => by
      simp only [From.wt, mW, mF] at m1
      exact (m1 b hb hn).2 hF) i v x (by rw [← Array.getElem?_toList]; exact hi) hx
    refine ⟨fn, _, assign, body, hy, roundIn_of_wpIn (F := Fence.wide) trivial ?_⟩
    obtain ⟨outs, vargs, oc, o1, b, hl', hc, hs', ho, hA, hk⟩ := hrd
    have hp1 := putPs_rl ps.toList es args.toList hW (by simp; omega) hargs'
    simp only
    rw [zip_foldl]
    obtain ⟨ts, hts⟩ : ∃ ts, (ps.toList.zip args.toList).foldl (fun t q => t.setIfInBounds q.1 q.2) a.tmps = ts := ⟨_, rfl⟩
    rw [hts] at hp1 ⊢
    have hs1o : (putPs c ps.toList es (S x)).o = (S x).o := putPs_o _ _ _
    have hus : ∀ (i : Nat) (u : Value) (x' : V), ts.toList[i]? = some u → (slotsV 0 c.N (putPs c ps.toList es (S x)).e)[i]? = some x' → RA W F β (S x).o u x' := fun i u x' hi hx' => by
      rw [← hs1o]; exact slots_ra hp1 i u x' hi hx'
    have hcall := call_ownC (C := RC P nn l (rec .ready none) assign body ts W) (fun h hm => h.mono hm) hW (vs := slotsV 0 c.N (putPs c ps.toList es (S x)).e) (us := ts.toList) (by rw [slotsV_len, Array.length_toList]; exact hp1.n) hus
      (outs := outs) (fz := []) (args := vargs) (oc := oc) (o1 := o1) (r := .int .i64 (.lit b)) (K := fun out => out = ⟨.int .i64 (.lit b), [], twice (usOf outs o1 (srn (iot outs)))⟩)
      (fun F' β' g1 g2 g3 g4 g5 g6 g7 => hA nn l (rec .ready none) W ts F' β' hrecW (by rw [hrec]) (g7 l _ (pkl _)).1 (g7 l _ (pkl _)).2 (by simpa using g1) (by simpa using g2) g3 g4 g5 g6) hc hl' hs' ho (fun _ => rfl)
      (fun v w3 => v = numV b ∧ ∃ F' β', Rl P c (z.wt m2 (pk (rec .ready none))) F' β' ((S x).after ⟨.int .i64 (.lit b), [], twice (usOf outs o1 (srn (iot outs)))⟩) a.tmps w3)
      (fun out F' β' val w' hout hR hv => by subst hout; exact ⟨ra_num hv, F', β', hR⟩)
    refine wpIn_mono hcall fun e1 a1 W1 he1 => ?_
    cases e1 with
    | normal =>
      obtain ⟨W2, hb1, hb2⟩ := he1
      refine ⟨W2, hb1, wpIn_mono hb2 fun e a3 W3 he3 => ?_⟩
      -- the world behind the body, with the record as it is there
      have tail : ∀ b', exitNo e = some b' → b' = b ∧ ∃ F' β', Rl P c (z.wt m2 (pk { rec .ready none with state := .busy })) F' β' ((S x).after ⟨.int .i64 (.lit b), [], twice (usOf outs o1 (srn (iot outs)))⟩) a.tmps W3 := fun b' hb' => by
        rw [hb'] at he3
        obtain ⟨h3, h4, F', β', hR⟩ := he3
        refine ⟨by simp [numV] at h4; omega, F', β', ?_⟩
        have := flipTo (rc' := { rec .ready none with state := .busy }) hR
        rw [putObj_twice, putObj_self h3] at this
        exact this
      have left : ∀ b', exitNo e = some (b' + 1) → ∀ jc, jc = jumpOf (noExit (b' + 1)) → ∃ v W4, (Instr.endRound l (some jc)).run P W3 = .ok v W4 ∧ ((Ending.returned v = .returned (.bool true) ∧ ∃ x F β, φ (k + 1) x ∧ Rl P c (z.wt m2 (pk (rec .ready none))) F β (S x) a.tmps W4) ∨
          (Ending.returned v = .returned (.bool false) ∧ ∃ b s' F β, Q (noExit (b + 1)) s' ∧ Rl P c (z.wt m2 (pk (rec .done (some (jumpOf (noExit (b + 1))))))) F β s' a.tmps W4)) := fun b' hb' jc hjc => by
        obtain ⟨rfl, F', β', hR⟩ := tail _ hb'
        have hrec3 := recAt hR
        refine ⟨_, _, run_endRound (some jc) hrec3, .inr ⟨rfl, ?_⟩⟩
        have hR2 := flipTo (rc' := rec .done (some jc)) hR
        obtain ⟨s2, hle, hk⟩ := hk
        obtain ⟨F4, β4, hR4⟩ := leSt_sound0 hle hR2 mβ
        refine ⟨b', s2, F4, β4, hk, ?_⟩
        have : (Obj.loop { { rec .ready none with state := .busy } with state := if (some jc : Option Code).isNone = true then LoopState.ready else LoopState.done, pending := some jc }) = .loop (rec .done (some jc)) := by rw [hrec]; rfl
        rw [this, ← hjc]
        exact hR4
      cases e with
      | normal =>
        obtain ⟨rfl, F', β', hR⟩ := tail _ rfl
        have hrec3 := recAt hR
        refine ⟨_, _, run_endRound none hrec3, .inl ⟨rfl, ?_⟩⟩
        obtain ⟨x', hx', hle⟩ := hk
        have hR2 := flipTo (rc' := rec .ready none) hR
        obtain ⟨F4, β4, hR4⟩ := leSt_sound0 hle hR2 mβ
        refine ⟨x', F4, β4, hx', ?_⟩
        have : (Obj.loop { { rec .ready none with state := .busy } with state := if (none : Option Code).isNone = true then LoopState.ready else LoopState.done, pending := none }) = .loop (rec .ready none) := by rw [hrec]; rfl
        rw [this]
        exact hR4
      | ret => exact left 0 rfl _ rfl
      | exit id => exact left (id + 1) rfl _ rfl
      | goto _ => exact he3.elim
      | panic _ => exact he3.elim
      | outgrown => exact he3.elim
    | _ => exact he1.elim
  · -- the iterator has returned
    rintro e W2 ⟨⟨v, rfl⟩, h⟩
    rcases h with ⟨x, F, β, hx, hW⟩ | ⟨b, s', F, β, hx, hW⟩
    · have hrecW := recAt hW
      refine ⟨none, _, by have := run_endLoop (P := P) hrecW (by rw [hrec]; simp); rw [hrec] at this; exact this, ?_⟩
      have := flipTo (rc' := { rec .ready none with state := .exhausted }) hW
      rw [hrec] at this
      exact behind this .normal (hq x hx) trivial
    · have hrecW := recAt hW
      refine ⟨some (jumpOf (noExit (b + 1))), _, by have := run_endLoop (P := P) hrecW (by rw [hrec]; simp); rw [hrec] at this; exact this, ?_⟩
      have := flipTo (rc' := { rec .done (some (jumpOf (noExit (b + 1)))) with state := .exhausted }) hW
      rw [hrec] at this
      cases b with
      | zero => exact wpIn_ret (behind this .ret hx trivial)
      | succ b => exact wpIn_exit (behind this (.exit b) hx trivial)
end
end Go.Vg
