/- The conditions suffice: operations in any order. -/
import Derived.Test.YtnapnedfhimikaaDoorVgS
set_option maxRecDepth 4000
set_option linter.all false
set_option linter.unusedVariables false
set_option linter.unusedSimpArgs false
namespace Go.Vg
open Go

def From.mark (z : From) (m : Mark) : From := { z with m := m }

section
variable {P : Program} {c : Ctx} {z : From} {F : Nat → Prop} {β : Bt} {s : St} {tm : Array Value} {w : World} {a : Act} {op : Oper} {ops : Array Oper} {Q : Exit → Act → World → Prop}

theorem Rl.remark (hr : Rl P c z F β s tm w) : Rl P c (z.mark ⟨w, F, β⟩) F β ⟨s.e, s.o, []⟩ tm w :=
  { hr with
    own := hr.own, fresh := hr.fresh, hold := hr.hold, nw := hr.nw, mk0 := Nat.le_refl _, mk1 := fun b _ hn => ⟨rfl, hn⟩
    mk2 := fun id b hb hlt _ => ⟨rfl, .inr ⟨hb, by
      have hb' : β id = some b := hb
      cases h : olook s.o id with
      | some e => exact ⟨e, rfl⟩
      | none => rw [hr.dom id h] at hb'; cases hb'⟩⟩ }

/-- What stays through a region. -/
def Sm (T : Option (List Nat)) (w : World) (F : Nat → Prop) (β : Bt) (w' : World) : Prop :=
  w.heap.size ≤ w'.heap.size ∧ ∀ b, b < w.heap.size → (¬ F b ∨ ∃ id, memT T id = false ∧ β id = some b) → w'.heap[b]? = w.heap[b]?

theorem Sm.refl (T : Option (List Nat)) (w : World) (F : Nat → Prop) (β : Bt) : Sm T w F β w := ⟨Nat.le_refl _, fun _ _ _ => rfl⟩

theorem Rl.sm {T : Option (List Nat)} {w1 : World} {F1 : Nat → Prop} {β1 : Bt} (hr : Rl P c (z.mark ⟨w1, F1, β1⟩) F β s tm w) (ht : subT T s.t = true) : Sm T w1 F1 β1 w := by
  refine ⟨hr.mk0, fun b hb h => ?_⟩
  rcases h with h | ⟨id, h1, h2⟩
  · exact (hr.mk1 b hb h).1
  · exact (hr.mk2 id b h2 hb (subT_mem ht h1)).1
theorem Rl.sm_mono {T : Option (List Nat)} {w1 : World} {F1 : Nat → Prop} {β1 : Bt} (hr : Rl P c (z.mark ⟨w1, F1, β1⟩) F β s tm w) (ht : subT T s.t = true) {w' : World} (h : Sm T w F β w') : Sm T w1 F1 β1 w' := by
  refine ⟨Nat.le_trans hr.mk0 h.1, fun b hb hh => ?_⟩
  have hlt := Nat.lt_of_lt_of_le hb hr.mk0
  rcases hh with hh | ⟨id, h1, h2⟩
  · obtain ⟨k1, k2⟩ := hr.mk1 b hb hh
    exact (h.2 b hlt (.inl k2)).trans k1
  · obtain ⟨k1, k2⟩ := hr.mk2 id b h2 hb (subT_mem ht h1)
    rcases k2 with k2 | ⟨k2, _⟩
    · exact (h.2 b hlt (.inl k2)).trans k1
    · exact (h.2 b hlt (.inr ⟨id, h1, k2⟩)).trans k1

theorem wpAnyH_mono {md : Region.Mode} {S S' : World → Prop} (hs : ∀ w, S w → S' w) : ∀ (fuel : Nat) (listed : Array Bool) (a : Act) (w : World), wpAnyH P md ops Q S fuel listed a w → wpAnyH P md ops Q S' fuel listed a w
  | 0, _, _, _, h => h
  | n + 1, _, _, _, h => ⟨h.1, fun i hi => wpOp_mono (fun a w ⟨h1, h2⟩ => ⟨hs _ h1, wpAnyH_mono hs n _ a w h2⟩) (h.2 i hi)⟩

/-- What an operation yields that is taken first. -/
theorem tryE_sound {all : List Oper} {T : Option (List Nat)} {o : Oper} (hr : Rl P c z F β s a.tmps w) {im : List (Nat × Bool)} (him : ∀ t b, (t, b) ∈ im → a.tmps.getD t undef = .bool b) {J : V → Prop} {p : Prop} (h : tryE c all T im o s J = some p) (hp : p) :
    ∃ v x, (∀ w', Sm T w F β w' → (execOp a.eval o).run P w' = .ok (.value v) w') ∧ RA w F β s.o v x ∧ J x := by
  unfold tryE at h
  split at h
  · rename_i x hx
    replace h := bif_some' h
    obtain ⟨h1, h⟩ := h
    simp only [Option.some.injEq] at h; subst h
    obtain ⟨v, g1, g2⟩ := pure_run' (H := Sm T w F β) rfl hr.toRel him hx (fun w' hw b hb hn => hw.2 b hb (.inl hn)) (fun t y id off hop hy w' b hw hb => by
      rw [hop] at h1
      simp only [loadOk, hy] at h1
      have he : ∃ ent, olook s.o id = some ent := by
        cases h : olook s.o id with
        | some e => exact ⟨e, rfl⟩
        | none => rw [hr.dom id h] at hb; cases hb
      obtain ⟨ent, he⟩ := he
      exact hw.2 b (hr.Flt b ((hr.own.ent id ent he).blk hb).1) (.inr ⟨id, by simpa using h1, hb⟩))
    exact ⟨v, x, g1, g2, hp⟩
  · split at h
    · rename_i q hq
      simp only [Option.some.injEq] at h; subst h
      obtain ⟨v, x, g1, g2, g3⟩ := semiOp_sound (J := J) rfl hr him hq hp
      exact ⟨v, x, fun w' _ => g1 w', g2, g3⟩
    · replace h := (bif_some' h).2
      split at h
      · rename_i q hq
        simp only [Option.some.injEq] at h; subst h
        obtain ⟨v, x, g1, g2, g3⟩ := viewOp_sound (J := J) rfl hr him hq hp
        exact ⟨v, x, fun w' _ => g1 w', g2, g3⟩
      · cases h

theorem takeE_sound {T : Option (List Nat)} {o : Oper} (hr : Rl P c z F β s a.tmps w) {k : St → Prop} {p : Prop} (h : takeE c ops.toList T o s k = some p) (hp : p) :
    ∃ v s', YieldsIf P ops (Sm T w F β) o v a ∧ Rl P c z F β s' (a.put o.dst v).tmps w ∧ s'.t = s.t ∧ k s' := by
  have putt : ∀ (s : St) (d : Option Tmp) (x : V), (putO c.N s d x).t = s.t := fun s d x => by
    cases d with
    | none => rfl
    | some d => simp only [putO]; cases (ltN d c.N) <;> rfl
  unfold takeE at h
  simp only [cnd_eq] at h
  split at h
  · rename_i hg
    obtain ⟨v, x, g1, g2, g3⟩ := tryE_sound hr (by simp) h hp
    exact ⟨v, _, .inl ⟨wanted_none hg _, g1⟩, hr.put o.dst g2 a rfl, putt _ _ _, g3⟩
  · rename_i g wt hg
    split at h
    · rename_i t ht
      have hw := fun tm => wanted_some hg ht tm
      cases hd : dstIs o.dst t with
      | true => rw [hd] at h; cases h
      | false =>
      rw [hd] at h
      simp only [cond_false] at h
      split at h
      · rename_i b hb
        have h1 := look_lit hr.toRel hb
        cases hbw : (b == wt) with
        | true =>
          simp only [hbw, cond_true] at h
          simp only [beq_iff_eq] at hbw; subst hbw
          obtain ⟨v, x, g1, g2, g3⟩ := tryE_sound hr (im := [(t, b)]) (by simpa using h1) h hp
          exact ⟨v, _, .inl ⟨(hw _).2 h1, g1⟩, hr.put o.dst g2 a rfl, putt _ _ _, g3⟩
        | false =>
          simp only [hbw, cond_false, Option.some.injEq] at h
          subst h
          have hn : a.tmps.getD t undef ≠ .bool wt := by rw [h1]; intro e; cases e; simp at hbw
          refine ⟨undef, _, .inr ⟨?_, rfl⟩, hr.skip hn o.dst hd _, putt _ _ _, hp⟩
          cases hc : Region.wanted o (yielded ops a.tmps) with
          | false => rfl
          | true => exact absurd ((hw _).1 hc) hn
      · rename_i q hq0 hq1
        split at h
        · rename_i x hx
          replace h := bif_some' h
          obtain ⟨h1, h⟩ := h
          simp only [Option.some.injEq] at h; subst h
          by_cases hn : a.tmps.getD t undef = .bool wt
          · obtain ⟨v, x', g1, g2, g3⟩ := tryE_sound (all := ops.toList) (T := T) hr (im := [(t, wt)]) (o := o) (by simpa using hn) (J := fun x' => x' = x) (p := x = x) (by unfold tryE; rw [hx]; simp [h1, cnd]) rfl
            subst g3
            exact ⟨v, _, .inl ⟨(hw _).2 hn, g1⟩, hr.when hn o.dst hd g2, putt _ _ _, hp⟩
          · refine ⟨undef, _, .inr ⟨?_, rfl⟩, hr.skip hn o.dst hd _, putt _ _ _, hp⟩
            cases hc : Region.wanted o (yielded ops a.tmps) with
            | false => rfl
            | true => exact absurd ((hw _).1 hc) hn
        · cases h
      · rename_i t' b' v' hq1
        have henv := hr.env t
        rw [hq1] at henv
        cases hd' : dstIs o.dst t' with
        | true => rw [hd'] at h; cases h
        | false =>
        rw [hd'] at h
        simp only [cond_false] at h
        cases hoff : offLit (look s.e t') b' with
        | true =>
          simp only [hoff, cond_true, Option.some.injEq] at h
          subst h
          have hn : a.tmps.getD t undef ≠ .bool wt := by
            unfold offLit at hoff
            split at hoff
            · rename_i b hb
              have h1 := look_lit hr.toRel hb
              rcases henv with ⟨e, _⟩ | ⟨_, e⟩
              · rw [h1] at e; cases e; simp at hoff
              · rw [e]; simp [undef]
            · cases hoff
          refine ⟨undef, _, .inr ⟨?_, rfl⟩, hr.skip hn o.dst hd _, putt _ _ _, hp⟩
          cases hc : Region.wanted o (yielded ops a.tmps) with
          | false => rfl
          | true => exact absurd ((hw _).1 hc) hn
        | false =>
        simp only [hoff, cond_false] at h
        split at h
        · rename_i x hx
          replace h := bif_some' h
          obtain ⟨h1, h⟩ := h
          simp only [Option.some.injEq] at h; subst h
          by_cases hn : a.tmps.getD t undef = .bool wt
          · have hy : a.tmps.getD t' undef = .bool b' := by
              rcases henv with ⟨e, _⟩ | ⟨_, e⟩
              · exact e
              · rw [e] at hn; simp [undef] at hn
            obtain ⟨v, x', g1, g2, g3⟩ := tryE_sound (all := ops.toList) (T := T) hr (im := [(t, wt), (t', b')]) (o := o) (fun t1 b1 hm => by
              simp only [List.mem_cons, Prod.mk.injEq, List.not_mem_nil, or_false] at hm
              rcases hm with ⟨rfl, rfl⟩ | ⟨rfl, rfl⟩
              · exact hn
              · exact hy) (J := fun x' => x' = x) (p := x = x) (by unfold tryE; rw [hx]; simp [h1, cnd]) rfl
            subst g3
            exact ⟨v, _, .inl ⟨(hw _).2 hn, g1⟩, hr.when hn o.dst hd g2, putt _ _ _, hp⟩
          · refine ⟨undef, _, .inr ⟨?_, rfl⟩, hr.skip hn o.dst hd _, putt _ _ _, hp⟩
            cases hc : Region.wanted o (yielded ops a.tmps) with
            | false => rfl
            | true => exact absurd ((hw _).1 hc) hn
        · cases h
      · cases h
    · cases h

theorem pickE_sound {T : Option (List Nat)} {k : Nat → St → Prop} {p : Prop} (hp : p) : ∀ (rs : List Nat), pickE c ops.toList T s k rs = some p → ∃ i o, i ∈ rs ∧ ops[i]? = some o ∧ takeE c ops.toList T o s (k i) = some p
  | [], h => by simp [pickE] at h
  | i :: r, h => by
    simp only [pickE] at h
    split at h
    · rename_i o ho
      rw [nthO_eq] at ho
      split at h
      · rename_i p' hp'
        simp only [Option.some.injEq] at h; subst h
        exact ⟨i, o, List.mem_cons_self, by simpa using ho, hp'⟩
      · obtain ⟨j, o', h1, h2, h3⟩ := pickE_sound hp r h
        exact ⟨j, o', List.mem_cons_of_mem _ h1, h2, h3⟩
    · cases h

theorem allE_mem {T : Option (List Nat)} {k : Nat → St → Prop} : ∀ (rs : List Nat), allE P c ops.toList T s k rs → ∀ i, i ∈ rs → ∃ o, ops[i]? = some o ∧ effS P c ops.toList T o s (k i)
  | [], _, i, hi => by cases hi
  | [j], h, i, hi => by
    simp only [allE] at h
    rw [List.mem_singleton] at hi
    subst hi
    split at h
    · rename_i o ho
      rw [nthO_eq] at ho
      exact ⟨o, by simpa using ho, h⟩
    · exact h.elim
  | j :: j' :: r, h, i, hi => by
    simp only [allE] at h
    rcases List.mem_cons.1 hi with rfl | hi
    · have h := h.1
      split at h
      · rename_i o ho
        rw [nthO_eq] at ho
        exact ⟨o, by simpa using ho, h⟩
      · exact h.elim
    · exact allE_mem (j' :: r) h.2 i hi

theorem effE_sound {T : Option (List Nat)} {o : Oper} {im : List (Nat × Bool)} {k : St → Prop} (hr : Rl P c (z.mark ⟨w, F, β⟩) F β s a.tmps w) (him : ∀ t b, (t, b) ∈ im → a.tmps.getD t undef = .bool b) (h : effE P c T im o s k) {N : Act → World → Prop}
    (hn : ∀ s' F' β' a' w', k s' → s'.t = [] → Rl P c (z.mark ⟨w', F', β'⟩) F' β' s' a'.tmps w' → Sm T w F β w' → (∀ w'', Sm T w' F' β' w'' → Sm T w F β w'') → a'.defers = a.defers → N a' w') : o.wp P a w N Q :=
  stepOp_sound (K := fun out => afterE c T o k out.v (s.after out)) rfl hr him h _ _ fun out F' β' val w' hk hr' hv => by
    unfold afterE at hk; simp only [cnd_eq] at hk
    obtain ⟨h1, h2⟩ := bif_true hk
    have hr2 := (hr'.remark).put o.dst (by exact hv) a rfl
    refine hn _ F' β' _ w' h2 ?_ hr2 (hr'.sm h1) (fun w'' hw => hr'.sm_mono h1 hw) (put_defers _ _ _)
    cases o.dst with
    | none => rfl
    | some d => simp only [putO]; cases (ltN d c.N) <;> rfl

theorem effS_sound {T : Option (List Nat)} {i : Nat} {o : Oper} (hi : ops[i]? = some o) {k : St → Prop} (ht : s.t = []) (hr : Rl P c (z.mark ⟨w, F, β⟩) F β s a.tmps w) (h : effS P c ops.toList T o s k) {N : Act → World → Prop}
    (hn : ∀ s' F' β' a' w', k s' → s'.t = [] → Rl P c (z.mark ⟨w', F', β'⟩) F' β' s' a'.tmps w' → Sm T w F β w' → (∀ w'', Sm T w' F' β' w'' → Sm T w F β w'') → a'.defers = a.defers → N a' w') : wpOp P ops Q i N a w := by
  have hlook : ∀ (s : St) (t : Nat) (v : V), look (setR s t v).e t = v := fun s t v => by simp [setR, look_putR]
  unfold wpOp
  simp only [hi]
  have skip : ∀ (s : St) (t : Nat) (wt : Bool), s.t = [] → Rl P c (z.mark ⟨w, F, β⟩) F β s a.tmps w → a.tmps.getD t undef ≠ .bool wt → dstIs o.dst t = false → k (putO c.N s o.dst (.opt t wt .junk)) → N (a.put o.dst undef) w := fun s t wt ht hr hx hd h =>
    hn _ F β _ w h (by
      cases o.dst with
      | none => exact ht
      | some d => simp only [putO]; cases (ltN d c.N) <;> exact ht) (hr.skip hx o.dst hd _) (Sm.refl _ _ _ _) (fun _ h => h) (put_defers _ _ _)
  unfold effS at h
  simp only [cnd_eq] at h
  split at h
  · rename_i hg
    rw [if_pos (wanted_none hg _)]
    exact .inl (effE_sound hr (by simp) h hn)
  · rename_i g wt hg
    split at h
    · rename_i t htt
      have hw := fun tm => wanted_some hg htt tm
      cases hd : dstIs o.dst t with
      | true => rw [hd] at h; exact h.elim
      | false =>
      rw [hd] at h
      simp only [cond_false] at h
      -- where it is known what the guard holds
      have run : ∀ (s : St) (gv : V) (im0 : List (Nat × Bool)), s.t = [] → Rl P c (z.mark ⟨w, F, β⟩) F β s a.tmps w → RA w F β s.o (a.tmps.getD t undef) gv → look s.e t = gv → (∀ t b, (t, b) ∈ im0 → a.tmps.getD t undef = .bool b) → effG P c T o t wt im0 s gv k →
          (if Region.wanted o (yielded ops a.tmps) = true then o.wp P a w N Q ∨ (o.asks P a w ∧ LetsOut Q) else N (a.put o.dst undef) w) := by
        intro s gv im0 ht hr hgv hgl him h
        have him' : a.tmps.getD t undef = .bool wt → ∀ t' b, (t', b) ∈ (t, wt) :: im0 → a.tmps.getD t' undef = .bool b := fun hw t' b hm => by
          rcases List.mem_cons.1 hm with e | e
          · cases e; exact hw
          · exact him t' b e
        unfold effG at h
        simp only [cnd_eq] at h
        split at h
        · rename_i b
          have h1 : a.tmps.getD t undef = .bool b := RA.of_bool hgv
          cases hbw : (b == wt) with
          | true =>
            simp only [hbw, cond_true] at h
            simp only [beq_iff_eq] at hbw; subst hbw
            rw [if_pos ((hw _).2 h1)]
            exact .inl (effE_sound hr (him' h1) h hn)
          | false =>
            simp only [hbw, cond_false] at h
            have hx : a.tmps.getD t undef ≠ .bool wt := by rw [h1]; intro e; cases e; simp at hbw
            rw [if_neg (fun e => hx ((hw _).1 e))]
            exact skip s t wt ht hr hx hd h
        · rename_i q hq0
          have hqt := RA.of_bool hgv
          obtain ⟨hT, hF⟩ := h
          cases hden : q.den with
          | true =>
            have h := hT hden
            have hr' := hr.setLit hgl hden
            have h1 : a.tmps.getD t undef = .bool true := by rw [hqt, hden]
            cases wt with
            | true =>
              simp only [cond_true] at h
              rw [if_pos ((hw _).2 h1)]
              exact .inl (effE_sound hr' (him' h1) h hn)
            | false =>
              simp only [cond_false] at h
              have hx : a.tmps.getD t undef ≠ .bool false := by rw [h1]; simp
              rw [if_neg (fun e => hx ((hw _).1 e))]
              exact skip (setR s t (.bool (.lit true))) t false ht hr' hx hd h
          | false =>
            have h := hF hden
            have hr' := hr.setLit hgl hden
            have h1 : a.tmps.getD t undef = .bool false := by rw [hqt, hden]
            cases wt with
            | false =>
              simp only [cond_false] at h
              rw [if_pos ((hw _).2 h1)]
              exact .inl (effE_sound hr' (him' h1) h hn)
            | true =>
              simp only [cond_true] at h
              have hx : a.tmps.getD t undef ≠ .bool true := by rw [h1]; simp
              rw [if_neg (fun e => hx ((hw _).1 e))]
              exact skip (setR s t (.bool (.lit false))) t true ht hr' hx hd h
        · exact h.elim
      have plain : ∀ (s : St) (gv : V) (im0 : List (Nat × Bool)), effG P c T o t wt im0 s gv k → (∀ t b x, gv ≠ .opt t b x) ∧ ∀ b, gv ≠ .nb b := fun s gv im0 h => by
        cases gv <;> first | (refine ⟨fun _ _ _ e => ?_, fun _ e => ?_⟩ <;> cases e; done) | exact (show False from h).elim
      have henv := hr.env t
      split at h
      · rename_i t' b' v hv
        rw [hv] at henv
        cases hd' : dstIs o.dst t' with
        | true => rw [hd'] at h; exact h.elim
        | false =>
        rw [hd'] at h
        simp only [cond_false] at h
        have off : a.tmps.getD t' undef ≠ .bool b' → a.tmps.getD t undef ≠ .bool wt := fun hn => by
          rcases henv with ⟨h1, _⟩ | ⟨_, h2⟩
          · exact absurd h1 hn
          · rw [h2]; simp [undef]
        have on : a.tmps.getD t' undef = .bool b' → RA w F β s.o (a.tmps.getD t undef) v := fun hy => by
          rcases henv with ⟨_, h2⟩ | ⟨h1, _⟩
          · exact h2
          · exact absurd hy h1
        have run1 : ∀ (s1 : St), s1.o = s.o → s1.t = [] → Rl P c (z.mark ⟨w, F, β⟩) F β s1 a.tmps w → a.tmps.getD t' undef = .bool b' → effG P c T o t wt [(t', b')] (setR s1 t v) v k →
            (if Region.wanted o (yielded ops a.tmps) = true then o.wp P a w N Q ∨ (o.asks P a w ∧ LetsOut Q) else N (a.put o.dst undef) w) := fun s1 ho ht1 hr1 hy h => by
          have hg := plain _ _ _ h
          have hv1 : RA w F β s1.o (a.tmps.getD t undef) v := by rw [ho]; exact on hy
          exact run (setR s1 t v) v [(t', b')] ht1 (hr1.setV hv1 hg.1 hg.2) hv1 (hlook s1 t v) (fun t b hm => by simp only [List.mem_singleton, Prod.mk.injEq] at hm; obtain ⟨rfl, rfl⟩ := hm; exact hy) h
        have skip1 : ∀ (s1 : St), s1.t = [] → Rl P c (z.mark ⟨w, F, β⟩) F β s1 a.tmps w → a.tmps.getD t' undef ≠ .bool b' → k (putO c.N s1 o.dst (.opt t wt .junk)) →
            (if Region.wanted o (yielded ops a.tmps) = true then o.wp P a w N Q ∨ (o.asks P a w ∧ LetsOut Q) else N (a.put o.dst undef) w) := fun s1 ht1 hr1 hy h => by
          rw [if_neg (fun e => off hy ((hw _).1 e))]
          exact skip s1 t wt ht1 hr1 (off hy) hd h
        split at h
        · rename_i b hb
          have h1 := look_lit hr.toRel hb
          cases hbw : (b == b') with
          | true =>
            simp only [hbw, cond_true] at h
            simp only [beq_iff_eq] at hbw; subst hbw
            exact run1 s rfl ht hr h1 h
          | false =>
            simp only [hbw, cond_false] at h
            exact skip1 s ht hr (by rw [h1]; intro e; cases e; simp at hbw) h
        · rename_i q hq0 hq1
          have hqt := hr.env t'
          rw [hq1] at hqt
          have hqt := RA.of_bool hqt
          obtain ⟨hT, hF⟩ := h
          cases hden : q.den with
          | true =>
            have h := hT hden
            have hr' := hr.setLit hq1 hden
            have h1 : a.tmps.getD t' undef = .bool true := by rw [hqt, hden]
            cases b' with
            | true => simp only [cond_true] at h; exact run1 (setR s t' _) rfl ht hr' h1 h
            | false => simp only [cond_false] at h; exact skip1 (setR s t' _) ht hr' (by rw [h1]; simp) h
          | false =>
            have h := hF hden
            have hr' := hr.setLit hq1 hden
            have h1 : a.tmps.getD t' undef = .bool false := by rw [hqt, hden]
            cases b' with
            | false => simp only [cond_false] at h; exact run1 (setR s t' _) rfl ht hr' h1 h
            | true => simp only [cond_true] at h; exact skip1 (setR s t' _) ht hr' (by rw [h1]; simp) h
        · exact h.elim
      · have hg := plain _ _ _ h
        exact run s _ [] ht hr (henv.ra hg.1 hg.2) rfl (by simp) h
    · exact h.elim

theorem tellG_sound {w : World} {F : Nat → Prop} {β : Bt} {m : Mark} {k : St → Prop} : ∀ (rs : List Nat) {s : St}, Rl P c (z.mark m) F β s a.tmps w → tellG ops.toList rs s k → ∃ s', Rl P c (z.mark m) F β s' a.tmps w ∧ s'.t = s.t ∧ k s'
  | [], s, hr, h => ⟨s, hr, rfl, h⟩
  | i :: r, s, hr, h => by
    have hlook : ∀ (s : St) (t : Nat) (v : V), look (setR s t v).e t = v := fun s t v => by simp [setR, look_putR]
    have ih : ∀ (s1 : St), s1.t = s.t → Rl P c (z.mark m) F β s1 a.tmps w → tellG ops.toList r s1 k → ∃ s', Rl P c (z.mark m) F β s' a.tmps w ∧ s'.t = s.t ∧ k s' := fun s1 ht hr1 h => by
      obtain ⟨s', g1, g2, g3⟩ := tellG_sound r hr1 h
      exact ⟨s', g1, g2.trans ht, g3⟩
    simp only [tellG, cnd_eq] at h
    split at h
    · split at h
      · split at h
        · rename_i t _
          split at h
          · exact ih s rfl hr h
          · rename_i q hq0 hq1
            obtain ⟨hT, hF⟩ := h
            cases hden : q.den with
            | true => exact ih (setR s t _) rfl (hr.setLit hq1 hden) (hT hden)
            | false => exact ih (setR s t _) rfl (hr.setLit hq1 hden) (hF hden)
          · rename_i t' b' v hv
            have henv := hr.env t
            rw [hv] at henv
            cases hp : plainV v with
            | false => rw [hp] at h; exact ih s rfl hr h
            | true =>
              rw [hp] at h
              simp only [cond_true] at h
              have on : ∀ (s1 : St), s1.o = s.o → Rl P c (z.mark m) F β s1 a.tmps w → a.tmps.getD t' undef = .bool b' → Rl P c (z.mark m) F β (setR s1 t v) a.tmps w := fun s1 ho hr1 hy => by
                refine hr1.setV ?_ (fun _ _ _ e => by subst e; cases hp) (fun _ e => by subst e; cases hp)
                rw [ho]
                rcases henv with ⟨_, h2⟩ | ⟨h1, _⟩
                · exact h2
                · exact absurd hy h1
              split at h
              · rename_i b hb
                have h1 := look_lit hr.toRel hb
                cases hbw : (b == b') with
                | true =>
                  simp only [hbw, cond_true] at h
                  simp only [beq_iff_eq] at hbw; subst hbw
                  exact ih (setR s t v) rfl (on s rfl hr h1) h
                | false =>
                  simp only [hbw, cond_false] at h
                  exact ih s rfl hr h
              · rename_i q hq0 hq1
                have hqt := hr.env t'
                rw [hq1] at hqt
                have hqt := RA.of_bool hqt
                obtain ⟨hT, hF⟩ := h
                cases hden : q.den with
                | true =>
                  have h := hT hden
                  have hr' := hr.setLit hq1 hden
                  have h1 : a.tmps.getD t' undef = .bool true := by rw [hqt, hden]
                  cases b' with
                  | true => simp only [cond_true] at h; exact ih (setR (setR s t' _) t v) rfl (on (setR s t' _) rfl hr' h1) h
                  | false => simp only [cond_false] at h; exact ih (setR s t' _) rfl hr' h
                | false =>
                  have h := hF hden
                  have hr' := hr.setLit hq1 hden
                  have h1 : a.tmps.getD t' undef = .bool false := by rw [hqt, hden]
                  cases b' with
                  | false => simp only [cond_false] at h; exact ih (setR (setR s t' _) t v) rfl (on (setR s t' _) rfl hr' h1) h
                  | true => simp only [cond_true] at h; exact ih (setR s t' _) rfl hr' h
              · exact ih s rfl hr h
          · exact ih s rfl hr h
        · exact ih s rfl hr h
      · exact ih s rfl hr h
    · exact ih s rfl hr h

theorem runAny_sound {T : Option (List Nat)} {K : St → Prop} {d : List Deferred} (hfree : freeAll ops.toList 0 ops.toList = true) (hsel : noSel ops.toList = true) (hQ : ∀ c a w, ¬ Q (.panic c) a w)
    (hq : ∀ s' m F' β' a' w', K s' → Rl P c (z.mark m) F' β' s' a'.tmps w' → a'.defers = d → Q .normal a' w') :
    ∀ (fuel : Nat) (ls : List Nat) {s : St} {a : Act} {w : World} {F : Nat → Prop} {β : Bt}, (∀ x, memN ls x = true → x < ops.size) → s.t = [] → Rl P c (z.mark ⟨w, F, β⟩) F β s a.tmps w → a.defers = d → runAny P c ops.toList T fuel ls s K →
      wpAnyH P .any ops Q (Sm T w F β) fuel (Lof ops.size ls) a w
  | 0, ls, s, a, w, F, β, hls, ht, hr, hd, h => by
    simp only [runAny] at h
    refine ⟨?_, ?_⟩
    · rw [ready_eq ls hls]
      split at h
      · assumption
      · exact h.elim
    · split at h
      · exact hq _ _ _ _ _ _ h hr hd
      · exact h.elim
  | fuel + 1, ls, s, a, w, F, β, hls, ht, hr, hd, h => by
    simp only [runAny] at h
    replace h := pz_go h
    split at h
    · rename_i hrd
      exact wpAnyH_done (by rw [ready_eq ls hls]; exact hrd) (hq _ _ _ _ _ _ h hr hd) _
    · rename_i hne
      have lt_of : ∀ i, i ∈ readyV ls 0 ops.toList → i < ops.size ∧ ∀ x, memN (i :: ls) x = true → x < ops.size := fun i hi => by
        rw [← ready_eq ls hls] at hi
        obtain ⟨_, o, ho, _⟩ := mem_ready.1 hi
        have := (Array.getElem?_eq_some_iff.1 ho).1
        refine ⟨this, fun x hx => ?_⟩
        simp only [memN, Bool.or_eq_true] at hx
        rcases hx with hx | hx
        · rw [← eqN_true hx]; exact this
        · exact hls x hx
      have pick : ∀ {s : St} {p : Prop}, s.t = [] → Rl P c (z.mark ⟨w, F, β⟩) F β s a.tmps w → pickE c ops.toList T s (fun i s' => runAny P c ops.toList T fuel (i :: ls) s' K) (readyV ls 0 ops.toList) = some p → p → wpAnyH P .any ops Q (Sm T w F β) (fuel + 1) (Lof ops.size ls) a w := fun {s p} ht hr hp h => by
        obtain ⟨i, o, h1, h2, h3⟩ := pickE_sound h _ hp
        obtain ⟨v, s', g1, g2, g3, g4⟩ := takeE_sound hr h3 h
        obtain ⟨hi, hls'⟩ := lt_of i h1
        have hrdy : i ∈ Region.ready .any ops (Lof ops.size ls) := by rw [ready_eq ls hls]; exact h1
        refine wpAnyH_first h2 (noSel_spec hsel) (fun c a w hx => absurd hx (hQ _ _ _)) fuel _ a w (fun j oj hj hne hun hno => free_of hfree h2 hrdy j oj hj hne hun hno) hrdy g1 (Sm.refl _ _ _ _) ?_
        rw [Lof_set hi]
        exact runAny_sound hfree hsel hQ hq fuel (i :: ls) hls' (g3.trans ht) g2 ((put_defers _ _ _).trans hd) g4
      split at h
      · rename_i p hp
        exact pick ht hr hp h
      · obtain ⟨s, hr, ht', h⟩ := tellG_sound _ hr h
        replace ht := ht'.trans ht
        split at h
        · rename_i p hp
          exact pick ht hr hp h
        · refine wpAnyH_all (rs := readyV ls 0 ops.toList) (ready_eq ls hls) hne fun i hi => ?_
          obtain ⟨o, h1, h2⟩ := allE_mem _ h i hi
          obtain ⟨hil, hls'⟩ := lt_of i hi
          refine effS_sound h1 ht hr h2 fun s' F' β' a' w' hk ht' hr' hs hm hd' => ⟨hs, ?_⟩
          rw [Lof_set hil]
          exact wpAnyH_mono hm _ _ _ _ (runAny_sound hfree hsel hQ hq fuel (i :: ls) hls' ht' hr' (hd'.trans hd) hk)

theorem Rl.drew (hr : Rl P c z F β s tm w) : ∃ m, Rl P c (z.mark m) F β s tm { w with drawn := w.drawn + 1 } := by
  obtain ⟨h, _, _⟩ := hr.world (w' := { w with drawn := w.drawn + 1 }) (F' := F) (fun _ _ => rfl) rfl rfl ⟨rfl, Nat.le_succ _⟩ (Nat.le_refl _) (fun _ h => h) (fun _ _ h => h) hr.Flt
  exact ⟨z.m, h⟩

theorem runDraw_any {K : St → Prop} {d : List Deferred} (hQ : ∀ c a w, ¬ Q (.panic c) a w) (hq : ∀ s' m F' β' a' w', K s' → Rl P c (z.mark m) F' β' s' a'.tmps w' → a'.defers = d → Q .normal a' w')
    (hr : Rl P c z F β s a.tmps w) (hd : a.defers = d) (h : runDraw P c ops.toList s K) : wpAny P .any ops Q ops.size (Array.replicate ops.size false) a { w with drawn := w.drawn + 1 } := by
  unfold runDraw at h
  obtain ⟨h1, h⟩ := h
  simp only [cond_true] at h1 h
  simp only [Bool.and_eq_true] at h1
  obtain ⟨m, hr'⟩ := hr.drew
  have := runAny_sound (z := z) h1.2 h1.1 hQ hq ops.toList.length [] (fun x hx => by simp [memN] at hx) rfl (show Rl P c (z.mark _) F β ⟨s.e, s.o, []⟩ a.tmps _ from hr'.remark) hd h
  rw [Array.length_toList] at this
  rw [← Lof_nil] at this
  exact wpAny_of_held _ _ _ _ this

end
end Go.Vg
