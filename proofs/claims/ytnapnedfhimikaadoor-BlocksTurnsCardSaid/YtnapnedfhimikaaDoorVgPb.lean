/- Own things told otherwise; numbers of own things. -/
import Derived.Test.YtnapnedfhimikaaDoorVgPa
set_option maxRecDepth 4000
set_option linter.all false
set_option linter.unusedVariables false
set_option linter.unusedSimpArgs false
namespace Go.Vg
open Go

theorem VEq.refl (x : V) : VEq x x := ⟨rfl, fun _ _ _ h1 h2 _ _ _ h => by rw [h1] at h2; cases h2; exact h⟩

/-- A slice's elements told otherwise. -/
theorem RD.retell {w : World} {F : Nat → Prop} {v : Value} {x y : V} {sz : Nat} {es es' : List V} (h : RD w F v x) (hx : x.elems = some (sz, es)) (hy : y.elems = some (sz, es')) (hne : y ≠ .nilsl) (hl : es.length = es'.length)
    (he : ∀ (i : Nat) (e e' : V), es[i]? = some e → es'[i]? = some e' → VEq e e') : RD w F v y := by
  cases h with
  | nilsl x sz' hx' =>
    rw [hx] at hx'
    cases hx'
    have : es' = [] := List.eq_nil_of_length_eq_zero (by simpa using hl.symm)
    subst this
    exact .nilsl _ _ hy
  | slice x sz' es0 hx' hnn a c hc hlm hs hF hb hsz cv hone hcv hr =>
    rw [hx] at hx'
    cases hx'
    have get : ∀ (i : Nat) (e' : V), es'[i]? = some e' → ∃ e, es[i]? = some e := fun i e' h => by
      have : i < es.length := by rw [hl]; exact (List.getElem?_eq_some_iff.1 h).1
      exact ⟨_, List.getElem?_eq_getElem this⟩
    have cell : ∀ (i : Nat) (e e' : V), es[i]? = some e → es'[i]? = some e' → ∀ (j : Nat) (y : V), (cells e')[j]? = some y → ∃ x, (cells e)[j]? = some x ∧ CEq x y := fun i e e' h1 h2 j y hj => (he i e e' h1 h2).get hj
    have hn : es' ≠ [] → es ≠ [] := fun h h' => h (List.eq_nil_of_length_eq_zero (by rw [← hl, h']; rfl))
    rw [hl]
    refine .slice _ sz es' hy hne a c (by omega) (by omega) (fun h => hs (hn h)) (fun h => hF (hn h)) (fun h => hb (hn h)) (fun i e' h => ?_) cv (fun i e' h j y hj => ?_) (fun i e' h j y hj => ?_) (fun i e' h j y hj => ?_)
    · obtain ⟨e, h1⟩ := get i e' h
      rw [← hsz i e h1]; exact (he i e e' h1 h).1.symm
    · obtain ⟨e, h1⟩ := get i e' h
      obtain ⟨x, g1, g2⟩ := cell i e e' h1 h j y hj
      exact hone i e h1 j x g1
    · obtain ⟨e, h1⟩ := get i e' h
      obtain ⟨x, g1, g2⟩ := cell i e e' h1 h j y hj
      exact hcv i e h1 j x g1
    · obtain ⟨e, h1⟩ := get i e' h
      obtain ⟨x, g1, g2⟩ := cell i e e' h1 h j y hj
      exact g2 _ _ _ (hr i e h1 j x g1)
  | _ => simp [V.elems] at hx

mutual
theorem LeP.ra {w : World} {F : Nat → Prop} {β : Bt} {o : Own} : {x y : V} → LeP o x y → ∀ {v : Value}, RA w F β o v x → RA w F β o v y
  | _, _, .same x, v, h => h
  | _, _, .junk x, v, h => .junk v
  | _, _, .int k e e' he, v, h => by
    obtain ⟨h1, h2⟩ := RA.of_int h
    subst h1
    exact ra_int he.symm h2
  | _, _, .bool e e' he, v, h => by rw [RA.of_bool h]; exact ra_bool he.symm
  | _, _, .str e e' he, v, h => by
    obtain ⟨h1, h2⟩ := RA.of_str h
    subst h1
    exact .d _ _ (.str _ _ (by rw [he]) (by rw [← he]; exact h2))
  | _, _, .sl sz f l l' he, v, h => by subst he; exact h
  | _, _, .sl' sz x es hx f l hl he, v, h => .d _ _ ((RA.of_elems h hx).retell hx rfl (by simp) (by simpa using hl) fun i e e' h1 h2 => by
      rw [List.getElem?_map, Option.map_eq_some_iff] at h2
      obtain ⟨p, hp, rfl⟩ := h2
      exact he i e p h1 hp)
  | _, _, .nil sz f l hl, v, h => by subst hl; rw [RA.of_nilsl h]; exact .d _ _ (.nilsl _ sz rfl)
  | _, _, .own id fx e sz f l ho hl, v, h => by subst hl; rw [RA.of_nilsl h]; exact .osl0 id fx e sz f ho
  | _, _, .agg xs ys hl, v, h => by
    obtain ⟨cs, rfl, h1, h2, h3⟩ := RA.of_agg h
    obtain ⟨g1, g2⟩ := LePl.ra hl h1 h3
    exact .agg _ _ g1 h2 g2
  | _, _, .tup xs ys hl, v, h => by
    obtain ⟨cs, rfl, h1, h3⟩ := RA.of_tup h
    obtain ⟨g1, g2⟩ := LePl.ra hl h1 h3
    exact .tup _ _ g1 g2
  | _, _, .fn f xs xs' ys ys' hl hl', v, h => by
    obtain ⟨fs, cs, rfl, h1, h2, h3, h4⟩ := RA.of_fn h
    obtain ⟨g1, g2⟩ := LePl.ra hl h1 h3
    obtain ⟨g3, g4⟩ := LePl.ra hl' h2 h4
    exact .fn _ _ _ _ _ g1 g3 g2 g4
theorem LePl.ra {w : World} {F : Nat → Prop} {β : Bt} {o : Own} : {xs ys : List V} → LePl o xs ys → ∀ {cs : Array Value}, cs.size = xs.length → (∀ (i : Nat) (c : Value) (x : V), cs[i]? = some c → xs[i]? = some x → RA w F β o c x) →
    cs.size = ys.length ∧ ∀ (i : Nat) (c : Value) (x : V), cs[i]? = some c → ys[i]? = some x → RA w F β o c x
  | _, _, .nil, cs, h1, h2 => ⟨h1, h2⟩
  | _, _, .cons x y xs ys hx hr, cs, h1, h2 => by
    have h3 : (cs.toList.drop 1).toArray.size = xs.length := by simp at h1 ⊢; omega
    obtain ⟨g1, g2⟩ := LePl.ra hr (cs := (cs.toList.drop 1).toArray) h3 (fun i c x hi hx => h2 (i + 1) c x (by simpa [List.getElem?_drop, Nat.add_comm] using hi) (by simpa using hx))
    refine ⟨by simp at h1 g1 ⊢; omega, fun i c x' hi hx' => ?_⟩
    cases i with
    | zero =>
      simp at hx'; subst hx'
      exact LeP.ra hx (h2 0 c x hi rfl)
    | succ i => exact g2 i c x' (by simpa [List.getElem?_drop, Nat.add_comm] using hi) (by simpa using hx')
end

theorem LeP.re {w : World} {F : Nat → Prop} {β : Bt} {o : Own} {tm : Array Value} {x y : V} (h : LeP o x y) {v : Value} (hv : RE w F β o tm v x) : RE w F β o tm v y := by
  have key : (∀ t b u, x ≠ .opt t b u) → (∀ b, x ≠ .nb b) → (∀ t b u, y ≠ .opt t b u) → (∀ b, y ≠ .nb b) → RE w F β o tm v y := fun h1 h2 h3 h4 => by
    have := h.ra (hv.ra h1 h2)
    cases y <;> first | exact this | exact absurd rfl (h3 _ _ _) | exact absurd rfl (h4 _)
  cases h with
  | same => exact hv
  | junk => exact .junk _
  | sl' sz x es hx f l hl he => exact key (by intro t b u e; subst e; simp [V.elems] at hx) (by intro b e; subst e; simp [V.elems] at hx) (by simp) (by simp)
  | _ => exact key (by simp) (by simp) (by simp) (by simp)

theorem mem_iff (l : List Nat) (n : Nat) : memN l n = true ↔ n ∈ l := by
  induction l with
  | nil => simp [memN]
  | cons a r ih =>
    simp only [memN, Bool.or_eq_true, ih, List.mem_cons]
    constructor
    · rintro (h | h)
      · exact .inl (eqN_true h).symm
      · exact .inr h
    · rintro (h | h)
      · left; rw [h]; simp
      · exact .inr h

theorem olook_erase_ids {o : Own} {x : Nat} {e : Ent} (h : olook o x = some e) : x ∈ oids o := by
  induction o with
  | nil => simp [olook] at h
  | cons a r ih =>
    obtain ⟨k, v⟩ := a
    simp only [olook] at h
    simp only [oids, List.mem_cons]
    cases hb : (eqN k x) with
    | true => left; exact (eqN_true hb).symm
    | false => rw [hb] at h; right; exact ih h

theorem leO_spec {o' : Own} {o : Own} : ∀ (l : Own), leO o' o l → ∀ x e, olook l x = some e → ∃ e1 e2, olook o x = some e1 ∧ olook o' x = some e2 ∧ EntLe o' e1 e2
  | [], _, x, e, h => by simp [olook] at h
  | (y, e0) :: r, hl, x, e, h => by
    simp only [leO] at hl
    split at hl
    · rename_i e1 e2 h1 h2
      simp only [olook] at h
      cases hb : (eqN y x) with
      | true =>
        have := eqN_true hb
        subst this
        exact ⟨e1, e2, h1, h2, hl.1⟩
      | false =>
        rw [hb] at h
        exact leO_spec r hl.2 x e h
    · exact hl.elim

theorem own_retell {w : World} {F : Nat → Prop} {β : Bt} {o o' : Own} (hown : OwnOk w F β o) (hn : ∀ id, olook o id = none → olook o' id = none) (ho : ∀ id e, olook o id = some e → ∃ e', olook o' id = some e' ∧ EntLe o' e e') :
    OwnOk w F β o' ∧ (∀ v x, RA w F β o v x → RA w F β o' v x) ∧ ∀ id e, olook o id = some e → Same w β o w β o' id id := by
  have old : ∀ id e', olook o' id = some e' → ∃ e, olook o id = some e ∧ EntLe o' e e' := fun id e' h => by
    cases h1 : olook o id with
    | none => rw [hn id h1] at h; cases h
    | some e =>
      obtain ⟨e2, h2, h3⟩ := ho id e h1
      rw [h] at h2; cases h2
      exact ⟨e, rfl, h3⟩
  have hsame : ∀ id e1, olook o id = some e1 → Same w β o w β o' id id := fun id e1 h1 => by
    obtain ⟨e', h2, h3⟩ := ho id e1 h1
    refine ⟨rfl, fun cs h => ?_, fun fx e sz α f l h => ?_⟩
    · rw [h1] at h; cases h
      cases h3 with
      | same => exact ⟨cs, h2⟩
      | var xs ys h => exact ⟨ys, h2⟩
    · rw [h1] at h; cases h
      cases h3 with
      | same => exact ⟨fx, α, f, l, h2, rfl, fun b cur hb hc => ⟨cur, hc, rfl⟩⟩
      | arr fx e sz f l l' h => exact ⟨fx, α, f, l', h2, by rw [h], fun b cur hb hc => ⟨cur, hc, rfl⟩⟩
      | arr' fx e sz f f' l l' hl h => exact ⟨fx, _, f', l', h2, hl.symm, fun b cur hb hc => ⟨cur, hc, rfl⟩⟩
      | pin e sz f l l' h => exact ⟨true, α, f, l', h2, by rw [h], fun b cur hb hc => ⟨cur, hc, rfl⟩⟩
  have g : ∀ v x, RA w F β o v x → RA w F β o' v x := fun v x hx => RA.stay (fun _ _ h => h) hsame hx
  have g' : ∀ v x, RA w F β o v x → RA w F β o' v (V.sub sid x) := fun v x hx => by rw [V.sub_id]; exact g v x hx
  refine ⟨⟨fun id e1 h1 => ?_, fun id id' b e1 e2 h1 h2 hb1 hb2 => ?_⟩, g, hsame⟩
  · obtain ⟨e2, h2, h3⟩ := old id e1 h1
    have := EntOk.sub (σ := sid) (o' := o') (fun _ _ h => h) g' rfl (fun b hb => ⟨rfl, ((hown.ent id e2 h2).blk hb).1⟩) (hown.ent id e2 h2)
    have e : Ent.sub sid e2 = e2 := by cases e2 <;> simp [Ent.sub, V.subl_id]
    rw [e] at this
    cases h3 with
    | same => exact this
    | var xs ys h =>
      obtain ⟨b, cs, t, k1, k2, k3, k4, k5, k6⟩ := this
      obtain ⟨m1, m2⟩ := LePl.ra h k4 k6
      exact ⟨b, cs, t, k1, k2, k3, m1, k5, m2⟩
    | arr fx e sz f l l' h => subst h; exact this
    | pin e sz f l l' h => subst h; exact this
    | arr' fx e sz f f' l l' hl h =>
      rcases this with ⟨k1, k2⟩ | ⟨b, cur, k1, k2, k3, k4, k5, k6⟩
      · exact .inl ⟨k1, List.eq_nil_of_length_eq_zero (by rw [← hl, k2]; rfl)⟩
      · refine .inr ⟨b, cur, k1, k2, k3, by rw [← hl]; exact k4, k5, fun i p' hp' => ?_⟩
        have hlt : i < l.length := by rw [hl]; exact (List.getElem?_eq_some_iff.1 hp').1
        have hp : l[i]? = some l[i] := List.getElem?_eq_getElem hlt
        obtain ⟨m1, m2⟩ := k6 i _ hp
        have hv := h i _ p' hp hp'
        refine ⟨by rw [← hv.1]; exact m1, fun j y hj => ?_⟩
        obtain ⟨x, n1, n2⟩ := CEqL.get hv hj
        obtain ⟨cv, n3, n4⟩ := m2 j x n1
        exact ⟨cv, n3, n2 _ _ _ n4⟩
  · obtain ⟨e3, h3, _⟩ := old id e1 h1
    obtain ⟨e4, h4, _⟩ := old id' e2 h2
    exact hown.inj id id' b e3 e4 h3 h4 hb1 hb2

theorem EntLe.kind {o : Own} {e e' : Ent} (h : EntLe o e e') : KindEq e e' := by
  cases h with
  | same => cases e <;> simp [KindEq]
  | var => simp [KindEq]
  | arr _ _ _ _ _ _ h => subst h; simp [KindEq]
  | arr' _ _ _ _ _ _ _ hl => simp [KindEq, hl]
  | pin _ _ _ _ _ h => subst h; simp [KindEq]
theorem KindEq.sub {σ : Sub} {e e' : Ent} (h : KindEq (Ent.sub σ e) e') : KindEq e e' := by
  cases e <;> cases e' <;> exact h
theorem pinned_sub (σ : Sub) (e : Ent) : pinned (Ent.sub σ e) = pinned e := by cases e <;> rfl

/-! ### Numbers -/

theorem kap_mem {outs : Outs} {x c : Nat} (h : kap outs x = some c) : ∃ m, (x, c, m) ∈ outs := by
  induction outs with
  | nil => simp [kap] at h
  | cons a r ih =>
    obtain ⟨x', c', m'⟩ := a
    simp only [kap] at h
    cases hb : (eqN x' x) with
    | true =>
      rw [hb] at h
      simp only [cond_true, Option.some.injEq] at h
      rw [eqN_true hb] 
      exact ⟨m', by rw [h]; exact List.mem_cons_self⟩
    | false =>
      rw [hb] at h
      obtain ⟨m, hm⟩ := ih h
      exact ⟨m, List.mem_cons_of_mem _ hm⟩
theorem iot_mem {outs : Outs} {x c : Nat} (h : iot outs c = some x) : ∃ m, (x, c, m) ∈ outs := by
  induction outs with
  | nil => simp [iot] at h
  | cons a r ih =>
    obtain ⟨x', c', m'⟩ := a
    simp only [iot] at h
    cases hb : (eqN c' c) with
    | true =>
      rw [hb] at h
      simp only [cond_true, Option.some.injEq] at h
      rw [eqN_true hb]
      exact ⟨m', by rw [h]; exact List.mem_cons_self⟩
    | false =>
      rw [hb] at h
      obtain ⟨m, hm⟩ := ih h
      exact ⟨m, List.mem_cons_of_mem _ hm⟩
theorem outX_mem {outs : Outs} {x c : Nat} {m : Bool} (h : (x, c, m) ∈ outs) : memN (outX outs) x = true := by
  induction outs with
  | nil => cases h
  | cons a r ih =>
    obtain ⟨x', c', m'⟩ := a
    simp only [outX, memN, Bool.or_eq_true]
    rcases List.mem_cons.1 h with h | h
    · cases h; left; simp
    · right; exact ih h
theorem outC_mem {outs : Outs} {x c : Nat} {m : Bool} (h : (x, c, m) ∈ outs) : memN (outC outs) c = true := by
  induction outs with
  | nil => cases h
  | cons a r ih =>
    obtain ⟨x', c', m'⟩ := a
    simp only [outC, memN, Bool.or_eq_true]
    rcases List.mem_cons.1 h with h | h
    · cases h; left; simp
    · right; exact ih h
theorem outC_of {outs : Outs} {c : Nat} (h : memN (outC outs) c = true) : ∃ x m, (x, c, m) ∈ outs := by
  induction outs with
  | nil => cases h
  | cons a r ih =>
    obtain ⟨x', c', m'⟩ := a
    simp only [outC, memN, Bool.or_eq_true] at h
    rcases h with h | h
    · exact ⟨x', m', by rw [eqN_true h]; exact List.mem_cons_self⟩
    · obtain ⟨x, m, hm⟩ := ih h
      exact ⟨x, m, List.mem_cons_of_mem _ hm⟩
theorem kap_of {outs : Outs} (hn : nodupN (outX outs) = true) {x c : Nat} {m : Bool} (h : (x, c, m) ∈ outs) : kap outs x = some c := by
  induction outs with
  | nil => cases h
  | cons a r ih =>
    obtain ⟨x', c', m'⟩ := a
    simp only [outX, nodupN, Bool.and_eq_true, Bool.not_eq_true'] at hn
    simp only [kap]
    rcases List.mem_cons.1 h with h | h
    · cases h; simp
    · cases hb : (eqN x' x) with
      | true => rw [eqN_true hb, outX_mem h] at hn; cases hn.1
      | false => exact ih hn.2 h
theorem iot_of {outs : Outs} (hn : nodupN (outC outs) = true) {x c : Nat} {m : Bool} (h : (x, c, m) ∈ outs) : iot outs c = some x := by
  induction outs with
  | nil => cases h
  | cons a r ih =>
    obtain ⟨x', c', m'⟩ := a
    simp only [outC, nodupN, Bool.and_eq_true, Bool.not_eq_true'] at hn
    simp only [iot]
    rcases List.mem_cons.1 h with h | h
    · cases h; simp
    · cases hb : (eqN c' c) with
      | true => rw [eqN_true hb, outC_mem h] at hn; cases hn.1
      | false => exact ih hn.2 h
theorem insO_mem {outs : Outs} {x c : Nat} {m : Bool} : (x, c, m) ∈ insO outs ↔ (x, c, m) ∈ outs ∧ c < 20000 := by
  induction outs with
  | nil => simp [insO]
  | cons a r ih =>
    obtain ⟨x', c', m'⟩ := a
    simp only [insO]
    cases hb : (ltN c' 20000) with
    | true =>
      have : c' < 20000 := by simpa using hb
      simp only [cond_true, List.mem_cons, ih, Prod.mk.injEq]
      constructor
      · rintro (⟨rfl, rfl, rfl⟩ | ⟨h1, h2⟩)
        · exact ⟨.inl ⟨rfl, rfl, rfl⟩, this⟩
        · exact ⟨.inr h1, h2⟩
      · rintro ⟨⟨rfl, rfl, rfl⟩ | h1, h2⟩
        · exact .inl ⟨rfl, rfl, rfl⟩
        · exact .inr ⟨h1, h2⟩
    | false =>
      have : ¬ c' < 20000 := by intro h; rw [show (ltN c' 20000) = true from ltN_iff.2 h] at hb; cases hb
      simp only [cond_false, List.mem_cons, ih, Prod.mk.injEq]
      constructor
      · rintro ⟨h1, h2⟩; exact ⟨.inr h1, h2⟩
      · rintro ⟨⟨rfl, rfl, rfl⟩ | h1, h2⟩
        · exact absurd h2 this
        · exact ⟨h1, h2⟩
theorem insO_nodup {outs : Outs} (hx : nodupN (outX outs) = true) (hc : nodupN (outC outs) = true) : nodupN (outX (insO outs)) = true ∧ nodupN (outC (insO outs)) = true := by
  induction outs with
  | nil => exact ⟨rfl, rfl⟩
  | cons a r ih =>
    obtain ⟨x', c', m'⟩ := a
    simp only [outX, outC, nodupN, Bool.and_eq_true, Bool.not_eq_true'] at hx hc
    obtain ⟨i1, i2⟩ := ih hx.2 hc.2
    simp only [insO]
    cases hb : (ltN c' 20000) with
    | true =>
      simp only [cond_true, outX, outC, nodupN, Bool.and_eq_true, Bool.not_eq_true']
      refine ⟨⟨?_, i1⟩, ⟨?_, i2⟩⟩
      · cases hm : memN (outX (insO r)) x' with
        | false => rfl
        | true =>
          have : ∀ l : Outs, memN (outX l) x' = true → ∃ c m, (x', c, m) ∈ l := fun l => by
            induction l with
            | nil => intro h; cases h
            | cons a r ih =>
              obtain ⟨x2, c2, m2⟩ := a
              intro h
              simp only [outX, memN, Bool.or_eq_true] at h
              rcases h with h | h
              · exact ⟨c2, m2, by rw [eqN_true h]; exact List.mem_cons_self⟩
              · obtain ⟨c, m, hm⟩ := ih h
                exact ⟨c, m, List.mem_cons_of_mem _ hm⟩
          obtain ⟨c, m, hm⟩ := this _ hm
          rw [outX_mem (insO_mem.1 hm).1] at hx; cases hx.1
      · cases hm : memN (outC (insO r)) c' with
        | false => rfl
        | true =>
          obtain ⟨x, m, hm⟩ := outC_of hm
          rw [outC_mem (insO_mem.1 hm).1] at hc; cases hc.1
    | false => exact ⟨i1, i2⟩

theorem ocOf_look {s : St} {σ : Sub} : ∀ (l : Outs), nodupN (outC l) = true → ∀ cid e0, olook (ocOf l s σ) cid = some e0 ↔ ∃ x m e, (x, cid, m) ∈ l ∧ olook s.o x = some e ∧ e0 = Ent.sub σ e
  | [], _, cid, e0 => by simp [ocOf, olook]
  | (x, c, m) :: r, hn, cid, e0 => by
    simp only [outC, nodupN, Bool.and_eq_true, Bool.not_eq_true'] at hn
    have ih := ocOf_look r hn.2 cid e0 (s := s) (σ := σ)
    have hnc : ∀ y m, (y, c, m) ∈ r → False := fun y m h => by rw [outC_mem h] at hn; cases hn.1
    simp only [ocOf]
    cases hx : olook s.o x with
    | none =>
      rw [ih]
      constructor
      · rintro ⟨y, m', e, h1, h2, h3⟩; exact ⟨y, m', e, List.mem_cons_of_mem _ h1, h2, h3⟩
      · rintro ⟨y, m', e, h1, h2, h3⟩
        rcases List.mem_cons.1 h1 with h1 | h1
        · cases h1; rw [hx] at h2; cases h2
        · exact ⟨y, m', e, h1, h2, h3⟩
    | some e =>
      simp only [olook]
      cases hb : (eqN c cid) with
      | true =>
        have := eqN_true hb
        subst this
        simp only [cond_true, Option.some.injEq]
        constructor
        · intro h; exact ⟨x, m, e, List.mem_cons_self, hx, h.symm⟩
        · rintro ⟨y, m', e', h1, h2, h3⟩
          rcases List.mem_cons.1 h1 with h1 | h1
          · cases h1; rw [hx] at h2; cases h2; exact h3.symm
          · exact (hnc y m' h1).elim
      | false =>
        simp only [cond_false]
        rw [ih]
        constructor
        · rintro ⟨y, m', e', h1, h2, h3⟩; exact ⟨y, m', e', List.mem_cons_of_mem _ h1, h2, h3⟩
        · rintro ⟨y, m', e', h1, h2, h3⟩
          rcases List.mem_cons.1 h1 with h1 | h1
          · cases h1; simp at hb
          · exact ⟨y, m', e', h1, h2, h3⟩

theorem entsOn_usOf {o1 on : Own} {σ : Sub} : ∀ (l : Outs), nodupN (outX l) = true → (∀ x c m, (x, c, m) ∈ l → ∃ e, olook o1 c = some e) → ∀ id, olook (entsOn (usOf l o1 σ) on) id = match kap l id with
    | some c => (olook o1 c).map (Ent.sub σ)
    | none => olook on id
  | [], _, _, id => rfl
  | (x, c, m) :: r, hn, hc, id => by
    simp only [outX, nodupN, Bool.and_eq_true, Bool.not_eq_true'] at hn
    obtain ⟨e, he⟩ := hc x c m List.mem_cons_self
    simp only [usOf, he, entsOn, olook, kap]
    cases hb : (eqN x id) with
    | true => simp [he]
    | false => exact entsOn_usOf r hn.2 (fun x c m h => hc x c m (List.mem_cons_of_mem _ h)) id
theorem idsU_usOf {o1 : Own} {σ : Sub} : ∀ (l : Outs), (∀ x c m, (x, c, m) ∈ l → ∃ e, olook o1 c = some e) → idsU (usOf l o1 σ) = outX l
  | [], _ => rfl
  | (x, c, m) :: r, hc => by
    obtain ⟨e, he⟩ := hc x c m List.mem_cons_self
    simp only [usOf, he, idsU, outX, idsU_usOf r fun x c m h => hc x c m (List.mem_cons_of_mem _ h)]
theorem movedU_usOf {o1 : Own} {σ : Sub} : ∀ (l : Outs), (∀ x c m, (x, c, m) ∈ l → ∃ e, olook o1 c = some e) → ∀ id, memN (movedU (usOf l o1 σ)) id = true ↔ ∃ c, (id, c, true) ∈ l
  | [], _, id => by simp [usOf, movedU, memN]
  | (x, c, m) :: r, hc, id => by
    obtain ⟨e, he⟩ := hc x c m List.mem_cons_self
    have ih := movedU_usOf r (fun x c m h => hc x c m (List.mem_cons_of_mem _ h)) id (o1 := o1) (σ := σ)
    simp only [usOf, he]
    cases m with
    | true =>
      simp only [movedU, memN, Bool.or_eq_true, ih, List.mem_cons, Prod.mk.injEq]
      constructor
      · rintro (h | ⟨c', h⟩)
        · exact ⟨c, .inl ⟨(eqN_true h).symm, rfl, trivial⟩⟩
        · exact ⟨c', .inr h⟩
      · rintro ⟨c', ⟨rfl, rfl, _⟩ | h⟩
        · left; simp
        · exact .inr ⟨c', h⟩
    | false =>
      simp only [movedU, ih, List.mem_cons, Prod.mk.injEq]
      constructor
      · rintro ⟨c', h⟩; exact ⟨c', .inr h⟩
      · rintro ⟨c', ⟨_, _, h⟩ | h⟩
        · cases h
        · exact ⟨c', h⟩
theorem memN_cat (a b : List Nat) (n : Nat) : memN (catN a b) n = (memN a n || memN b n) := by
  induction a with
  | nil => simp [catN, memN]
  | cons x r ih => simp [catN, memN, ih, Bool.or_assoc]
theorem olook_oeraseL : ∀ (l : List Nat) (o : Own) (id : Nat), olook (oeraseL l o) id = if memN l id = true then none else olook o id
  | [], o, id => by simp [oeraseL, memN]
  | x :: r, o, id => by
    simp only [oeraseL, olook_oeraseL r, memN, olook_oerase, Bool.or_eq_true]
    by_cases h : memN r id = true
    · simp [h]
    · by_cases e : id = x
      · subst e; simp [h]
      · have : (eqN x id) = false := beq_false e
        simp [h, e, this]
theorem subN_spec {l m : List Nat} (h : subN l m = true) {x : Nat} (hx : memN l x = true) : memN m x = true := by
  induction l with
  | nil => cases hx
  | cons a r ih =>
    simp only [subN, Bool.and_eq_true] at h
    simp only [memN, Bool.or_eq_true] at hx
    rcases hx with hx | hx
    · rw [← eqN_true hx]; exact h.1
    · exact ih h.2 hx
theorem oids_look {o : Own} {x : Nat} : memN (oids o) x = true ↔ ∃ e, olook o x = some e := by
  induction o with
  | nil => simp [oids, memN, olook]
  | cons a r ih =>
    obtain ⟨k, v⟩ := a
    simp only [oids, memN, Bool.or_eq_true, ih, olook]
    cases hb : (eqN k x) <;> simp
theorem movesOk_spec {c : Ctx} {s : St} {oc : Own} : ∀ {l : Outs}, movesOk c s oc l = true → ∀ x cid m, (x, cid, m) ∈ l → (cid < 20000 → ∃ e e', olook s.o x = some e ∧ olook oc cid = some e' ∧ (m = false → pinned e' = true)) ∧ (¬ cid < 20000 → m = true) ∧ (m = true → x < 10000 ∨ memN c.pin x = false)
  | [], _, _, _, _, h => by cases h
  | (x', c', m') :: r, h, x, cid, m, hm => by
    simp only [movesOk, Bool.and_eq_true] at h
    rcases List.mem_cons.1 hm with hm | hm
    · cases hm
      obtain ⟨⟨h1, h2⟩, _⟩ := h
      refine ⟨fun hlt => ?_, fun hnl => ?_, fun hm => ?_⟩
      · rw [show (ltN c' 20000) = true from ltN_iff.2 hlt] at h1
        simp only [cond_true] at h1
        split at h1
        · rename_i e e' he he'
          exact ⟨e, e', he, he', fun hm => by subst hm; simpa using h1⟩
        · cases h1
      · have : (ltN c' 20000) = false := by
          cases hb : (ltN c' 20000) with
          | false => rfl
          | true => exact absurd (by simpa using hb) hnl
        rw [this] at h1
        exact h1
      · subst hm
        simp only [Bool.not_true, Bool.false_or, Bool.or_eq_true, Bool.not_eq_true'] at h2
        rcases h2 with h2 | h2
        · exact .inl (by simpa using h2)
        · exact .inr h2
    · exact movesOk_spec h.2 x cid m hm
theorem allHigh_spec {l : List Nat} (h : allHigh l = true) {x : Nat} (hx : memN l x = true) : 10000 ≤ x := by
  induction l with
  | nil => cases hx
  | cons a r ih =>
    simp only [allHigh, Bool.and_eq_true] at h
    simp only [memN, Bool.or_eq_true] at hx
    rcases hx with hx | hx
    · rw [← eqN_true hx]; exact leN_true h.1
    · exact ih h.2 hx

end Go.Vg
