/- One state tells less than another. -/
import Derived.Test.YtnapnedfhimikaaDoorVgT
set_option maxRecDepth 4000
set_option linter.all false
set_option linter.unusedVariables false
set_option linter.unusedSimpArgs false
namespace Go.Vg
open Go

section
variable {P : Program} {c : Ctx} {z : From} {F : Nat → Prop} {β : Bt} {s : St} {tm : Array Value} {w : World}

def dropO (s : St) (X : Nat) : St := ⟨subE (spurge X) s.e, subO (spurge X) (oerase s.o X), s.t⟩

/-- An own thing is forgotten. -/
theorem Rl.drop (hr : Rl P c z F β s tm w) {X : Nat} (hX : X < 10000) : ∃ F' β', Rl P c z F' β' (dropO s X) tm w := by
  cases he : olook s.o X with
  | none =>
    -- nothing to forget, but what points to it
    have hbX : β X = none := hr.dom X he
    have hol : ∀ id, olook (subO (spurge X) (oerase s.o X)) id = (olook s.o id).map (Ent.sub (spurge X)) := fun id => by
      rw [olook_subO, olook_oerase]
      by_cases e : id = X
      · rw [if_pos e, e, he]
      · simp [e]
    have hsame : ∀ id e1, id ≠ X → olook s.o id = some e1 → Same w β s.o w β (subO (spurge X) (oerase s.o X)) id id := fun id e1 hne h1 =>
      ⟨rfl, fun cs h => ⟨_, by rw [hol, h]; rfl⟩, fun fx e sz α f l h => ⟨fx, α, f, l, by rw [hol, h]; rfl, rfl, fun b cur hb hc => ⟨cur, hc, rfl⟩⟩⟩
    have g : ∀ v x, RA w F β s.o v x → RA w F β (subO (spurge X) (oerase s.o X)) v (V.sub (spurge X) x) := fun v x hx => RA.purge (fun _ _ h => h) hsame hx
    obtain ⟨q1, q2, q3, q4, q5, q6⟩ := spurge_safe X
    have old : ∀ id e1, olook (dropO s X).o id = some e1 → ∃ e2, olook s.o id = some e2 := fun id e1 h => by
      simp only [dropO] at h
      rw [hol] at h
      cases h2 : olook s.o id with
      | none => rw [h2] at h; cases h
      | some e2 => exact ⟨e2, rfl⟩
    refine ⟨F, β, { hr with env := fun t => ?_, own := ⟨fun id e1 h1 => ?_, fun id id' b e1 e2 h1 h2 hb1 hb2 => ?_⟩, dom := fun id h => ?_, fresh := fun id e1 b h1 hb => ?_, nw := fun id e1 b hlt h1 hb => ?_, hold := fun id ent0 e1 h0 h1 hp => ?_, mk2 := fun id b hb hlt hm => ?_ }⟩
    · simp only [dropO]; rw [look_subE]; exact (hr.env t).sub g q1 q2 q3 q4 q5 q6
    · simp only [dropO] at h1
      rw [hol] at h1
      simp only [Option.map_eq_some_iff] at h1
      obtain ⟨e2, h2, rfl⟩ := h1
      exact EntOk.sub (fun _ _ h => h) g rfl (fun b hb => ⟨rfl, ((hr.own.ent id e2 h2).blk hb).1⟩) (hr.own.ent id e2 h2)
    · obtain ⟨e3, h3⟩ := old id e1 h1
      obtain ⟨e4, h4⟩ := old id' e2 h2
      exact hr.own.inj id id' b e3 e4 h3 h4 hb1 hb2
    · simp only [dropO] at h
      rw [hol] at h
      simp only [Option.map_eq_none_iff] at h
      exact hr.dom id h
    · obtain ⟨e3, h3⟩ := old id e1 h1
      exact hr.fresh id e3 b h3 hb
    · obtain ⟨e3, h3⟩ := old id e1 h1
      exact hr.nw id e3 b hlt h3 hb
    · obtain ⟨e3, h3⟩ := old id e1 h1
      have hne : id ≠ X := fun e => by subst e; rw [he] at h3; cases h3
      exact (hr.hold id ent0 e3 h0 h3 hp).trans (hsame id e3 hne h3)
    · obtain ⟨h1, h2⟩ := hr.mk2 id b hb hlt hm
      refine ⟨h1, h2.imp_right fun ⟨h3, ent, h4⟩ => ⟨h3, _, by simp only [dropO]; rw [hol, h4]; rfl⟩⟩
  | some ent =>
    refine ⟨fun b => F b ∧ β X ≠ some b, fun id => if id = X then none else β id, ?_⟩
    have hd : ∀ v x, RD w F v x → RD w (fun b => F b ∧ β X ≠ some b) v x := hd_of (fun _ _ _ => rfl) (fun _ _ h => h.1) (Nat.le_refl _)
    have hol : ∀ id, olook (subO (spurge X) (oerase s.o X)) id = if id = X then none else (olook s.o id).map (Ent.sub (spurge X)) := fun id => by
      rw [olook_subO, olook_oerase]
      by_cases e : id = X <;> simp [e]
    have hsame : ∀ id e1, id ≠ X → olook s.o id = some e1 → Same w β s.o w (fun id => if id = X then none else β id) (subO (spurge X) (oerase s.o X)) id id := fun id e1 hne h1 =>
      ⟨by simp [hne], fun cs h => ⟨_, by rw [hol, if_neg hne, h]; rfl⟩, fun fx' e' sz' α' f' l' h => ⟨fx', α', f', l', by rw [hol, if_neg hne, h]; rfl, rfl, fun b cur hb hc => ⟨cur, hc, rfl⟩⟩⟩
    have g : ∀ v x, RA w F β s.o v x → RA w (fun b => F b ∧ β X ≠ some b) (fun id => if id = X then none else β id) (subO (spurge X) (oerase s.o X)) v (V.sub (spurge X) x) := fun v x hx => RA.purge hd hsame hx
    obtain ⟨s1, s2, s3, s4, s5, s6⟩ := spurge_safe X
    have hzb : ∀ b, β X = some b → z.w.heap.size ≤ b := fun b hb => hr.nw X _ b hX he hb
    have hblk : ∀ id e0 b, id ≠ X → olook s.o id = some e0 → β id = some b → F b ∧ β X ≠ some b := fun id e0 b hne h1 hb =>
      ⟨((hr.own.ent id e0 h1).blk hb).1, fun e => hne (hr.own.inj id X b e0 _ h1 he hb e)⟩
    have old : ∀ id e1, olook (dropO s X).o id = some e1 → id ≠ X ∧ ∃ e2, olook s.o id = some e2 := fun id e1 h => by
      simp only [dropO] at h
      rw [hol] at h
      by_cases e : id = X
      · rw [if_pos e] at h; cases h
      · rw [if_neg e] at h
        cases h2 : olook s.o id with
        | none => rw [h2] at h; cases h
        | some e2 => exact ⟨e, e2, rfl⟩
    refine { n := hr.n, env := fun t => ?_, own := ⟨fun id e1 h1 => ?_, fun id id' b e1 e2 h1 h2 hb1 hb2 => ?_⟩, F0F := fun b h => ⟨hr.F0F b h, fun e => by have := hzb b e; have := hr.zlt b h; omega⟩, Fnew := fun b hb h => hr.Fnew b hb h.1, Flt := fun b h => hr.Flt b h.1,
             dom := fun id h => ?_, fresh := fun id e1 b h1 hb => ?_, keep := hr.keep, glob := ⟨fun gg cs hg => hd _ _ (hr.glob.ok gg cs hg)⟩, tab := hr.tab, eqs := hr.eqs, low := hr.low, pins := hr.pins, zlt := hr.zlt, nw := fun id e1 b hlt h1 hb => ?_, hold := fun id ent0 e1 h0 h1 hp => ?_,
             mk0 := hr.mk0, mk1 := fun b hb hn => let ⟨h1, h2⟩ := hr.mk1 b hb hn; ⟨h1, fun h => h2 h.1⟩, mk2 := fun id b hb hlt hm => ?_,
             prot := fun k o h => let ⟨h1, h2, h3⟩ := hr.prot k o h; ⟨⟨h1, h3 X⟩, h2, fun id hb => by
               by_cases e : id = X
               · rw [if_pos e] at hb; cases hb
               · rw [if_neg e] at hb; exact h3 id hb⟩ }
    · simp only [dropO]; rw [look_subE]; exact (hr.env t).sub g s1 s2 s3 s4 s5 s6
    · obtain ⟨hne, e2, h2⟩ := old id e1 h1
      simp only [dropO] at h1
      rw [hol, if_neg hne, h2] at h1
      simp only [Option.map_some, Option.some.injEq] at h1
      subst h1
      exact EntOk.sub hd g (by simp [hne]) (fun b hb => ⟨rfl, hblk id e2 b hne h2 hb⟩) (hr.own.ent id e2 h2)
    · obtain ⟨n1, e3, h3⟩ := old id e1 h1
      obtain ⟨n2, e4, h4⟩ := old id' e2 h2
      simp only [n1, n2, if_false] at hb1 hb2
      exact hr.own.inj id id' b e3 e4 h3 h4 hb1 hb2
    · simp only [dropO] at h
      rw [hol] at h
      by_cases e : id = X
      · simp [e]
      · rw [if_neg e] at h
        simp only [Option.map_eq_none_iff] at h
        simp only [e, if_false]
        exact hr.dom id h
    · obtain ⟨n1, e3, h3⟩ := old id e1 h1
      simp only [n1, if_false] at hb
      exact hr.fresh id e3 b h3 hb
    · obtain ⟨n1, e3, h3⟩ := old id e1 h1
      simp only [n1, if_false] at hb
      exact hr.nw id e3 b hlt h3 hb
    · obtain ⟨n1, e3, h3⟩ := old id e1 h1
      exact (hr.hold id ent0 e3 h0 h3 hp).trans (hsame id e3 n1 h3)
    · obtain ⟨h1, h2⟩ := hr.mk2 id b hb hlt hm
      refine ⟨h1, ?_⟩
      rcases h2 with h2 | ⟨h2, ent1, h3⟩
      · exact .inl fun h => h2 h.1
      · by_cases e : id = X
        · exact .inl fun h => h.2 (e ▸ h2)
        · exact .inr ⟨by simp [e, h2], _, by simp only [dropO]; rw [hol, if_neg e, h3]; rfl⟩

theorem ra_addNil {o : Own} {X : Nat} (hn : olook o X = none) (fx : Bool) (e : TypeId) (sz : Nat) {α : Type} (f : α → V) {v : Value} {x : V} (hx : RA w F β o v x) : RA w F β ((X, .arr fx e sz f []) :: o) v x := by
  have hol : ∀ id, olook ((X, .arr fx e sz f []) :: o) id = if id = X then some (.arr fx e sz f []) else olook o id := fun id => by
    simp only [olook]
    by_cases h : id = X
    · subst h; simp
    · rw [beq_false h]; simp [h]
  have hne : ∀ id e1, olook o id = some e1 → id ≠ X := fun id e1 h e => by subst e; rw [hn] at h; cases h
  exact RA.stay (fun _ _ h => h) (fun id e1 h1 => ⟨rfl, fun cs h => ⟨cs, by rw [hol, if_neg (hne id _ h)]; exact h⟩, fun fx' e' sz' α' f' l' h => ⟨fx', α', f', l', by rw [hol, if_neg (hne id _ h)]; exact h, rfl, fun b cur hb hc => ⟨cur, hc, rfl⟩⟩⟩) hx

/-- A list that is empty, and nowhere yet. -/
theorem Rl.addNil (hr : Rl P c z F β s tm w) {X : Nat} (hX : X < 10000) (hn : olook s.o X = none) (fx : Bool) (e : TypeId) (sz : Nat) {α : Type} (f : α → V) : Rl P c z F β ⟨s.e, (X, .arr fx e sz f []) :: s.o, s.t⟩ tm w := by
  have hol : ∀ id, olook ((X, .arr fx e sz f []) :: s.o) id = if id = X then some (.arr fx e sz f []) else olook s.o id := fun id => by
    simp only [olook]
    by_cases h : id = X
    · subst h; simp
    · rw [beq_false h]; simp [h]
  have hbX : β X = none := hr.dom X hn
  have hne : ∀ id e1, olook s.o id = some e1 → id ≠ X := fun id e1 h e => by subst e; rw [hn] at h; cases h
  have hsame : ∀ id e1, olook s.o id = some e1 → Same w β s.o w β ((X, .arr fx e sz f []) :: s.o) id id := fun id e1 h1 =>
    ⟨rfl, fun cs h => ⟨cs, by rw [hol, if_neg (hne id _ h)]; exact h⟩, fun fx' e' sz' α' f' l' h => ⟨fx', α', f', l', by rw [hol, if_neg (hne id _ h)]; exact h, rfl, fun b cur hb hc => ⟨cur, hc, rfl⟩⟩⟩
  have g : ∀ v x, RA w F β s.o v x → RA w F β ((X, .arr fx e sz f []) :: s.o) v x := fun v x hx => RA.stay (fun _ _ h => h) hsame hx
  have g' : ∀ v x, RA w F β s.o v x → RA w F β ((X, .arr fx e sz f []) :: s.o) v (V.sub sid x) := fun v x hx => by rw [V.sub_id]; exact g v x hx
  have old : ∀ id e1 b, olook ((X, .arr fx e sz f []) :: s.o) id = some e1 → β id = some b → olook s.o id = some e1 ∧ id ≠ X := fun id e1 b h hb => by
    rw [hol] at h
    by_cases e : id = X
    · subst e; rw [hbX] at hb; cases hb
    · rw [if_neg e] at h; exact ⟨h, e⟩
  refine { hr with env := fun t => ?_, own := ⟨fun id e1 h1 => ?_, fun id id' b e1 e2 h1 h2 hb1 hb2 => ?_⟩, dom := fun id h => ?_, fresh := fun id e1 b h1 hb => ?_, nw := fun id e1 b hlt h1 hb => ?_, hold := fun id ent0 e1 h0 h1 hp => ?_, mk2 := fun id b hb hlt hm => ?_ }
  · have := (hr.env t).sub (σ := sid) g' (by simp [sid]) (by simp [sid]) (by simp [sid]) (by simp [sid]) (by simp [sid]) (by simp [sid])
    rwa [V.sub_id] at this
  · simp only at h1
    rw [hol] at h1
    by_cases e : id = X
    · rw [if_pos e] at h1; cases h1
      exact .inl ⟨by rw [e]; exact hbX, rfl⟩
    · rw [if_neg e] at h1
      have := EntOk.sub (σ := sid) (o' := (X, .arr fx _ sz f []) :: s.o) (fun _ _ h => h) g' rfl (fun b hb => ⟨rfl, ((hr.own.ent id e1 h1).blk hb).1⟩) (hr.own.ent id e1 h1)
      have e : Ent.sub sid e1 = e1 := by cases e1 <;> simp [Ent.sub, V.subl_id]
      rwa [e] at this
  · exact hr.own.inj id id' b e1 e2 (old id e1 b h1 hb1).1 (old id' e2 b h2 hb2).1 hb1 hb2
  · simp only at h
    rw [hol] at h
    by_cases e : id = X
    · rw [if_pos e] at h; cases h
    · rw [if_neg e] at h; exact hr.dom id h
  · exact hr.fresh id e1 b (old id e1 b h1 hb).1 hb
  · exact hr.nw id e1 b hlt (old id e1 b h1 hb).1 hb
  · have hx : id ≠ X := fun e => by have := hr.low id ent0 h0; omega
    simp only at h1
    rw [hol, if_neg hx] at h1
    exact (hr.hold id ent0 e1 h0 h1 hp).trans (hsame id e1 h1)
  · obtain ⟨h1, h2⟩ := hr.mk2 id b hb hlt hm
    refine ⟨h1, h2.imp_right fun ⟨h3, ent, h4⟩ => ⟨h3, ent, by simp only; rw [hol, if_neg (hne id _ h4)]; exact h4⟩⟩

/-- All is told otherwise, place by place. -/
theorem Rl.retell (hr : Rl P c z F β s tm w) {s' : St} (ht : s'.t = s.t) (hn : ∀ id, olook s.o id = none → olook s'.o id = none) (ho : ∀ id e, olook s.o id = some e → ∃ e', olook s'.o id = some e' ∧ EntLe s'.o e e') (he : ∀ t, LeP s'.o (look s.e t) (look s'.e t)) : Rl P c z F β s' tm w := by
  have old : ∀ id e', olook s'.o id = some e' → ∃ e, olook s.o id = some e ∧ EntLe s'.o e e' := fun id e' h => by
    cases h1 : olook s.o id with
    | none => rw [hn id h1] at h; cases h
    | some e =>
      obtain ⟨e2, h2, h3⟩ := ho id e h1
      rw [h] at h2; cases h2
      exact ⟨e, rfl, h3⟩
  have hsame : ∀ id e1, olook s.o id = some e1 → Same w β s.o w β s'.o id id := fun id e1 h1 => by
    obtain ⟨e', h2, h3⟩ := ho id e1 h1
    refine ⟨rfl, fun cs h => ?_, fun fx e sz α f l h => ?_⟩
    · rw [h1] at h; cases h
      cases h3 with
      | same => exact ⟨cs, h2⟩
      | var xs ys h => exact ⟨ys, h2⟩
    · rw [h1] at h; cases h
      cases h3 with
      | same => exact ⟨fx, α, f, l, h2, rfl, fun b cur hb hc => ⟨cur, hc, rfl⟩⟩
      | arr fx e sz f l l' h => exact ⟨fx, α, f, l', h2, by rw [h], fun b cur hb hc => ⟨cur, hc, rfl⟩⟩
      | arr' fx e sz f f' l l' hl h => exact ⟨fx, _, f', l', h2, hl.symm, fun b cur hb hc => ⟨cur, hc, rfl⟩⟩
      | pin e sz f l l' h => exact ⟨true, α, f, l', h2, by rw [h], fun b cur hb hc => ⟨cur, hc, rfl⟩⟩
  have g : ∀ v x, RA w F β s.o v x → RA w F β s'.o v x := fun v x hx => RA.stay (fun _ _ h => h) hsame hx
  have g' : ∀ v x, RA w F β s.o v x → RA w F β s'.o v (V.sub sid x) := fun v x hx => by rw [V.sub_id]; exact g v x hx
  refine { hr with env := fun t => ?_, own := ⟨fun id e1 h1 => ?_, fun id id' b e1 e2 h1 h2 hb1 hb2 => ?_⟩, dom := fun id h => ?_, fresh := fun id e1 b h1 hb => ?_, nw := fun id e1 b hlt h1 hb => ?_, hold := fun id ent0 e1 h0 h1 hp => ?_, mk2 := fun id b hb hlt hm => ?_ }
  · refine (he t).re ?_
    have := (hr.env t).sub (σ := sid) g' (by simp [sid]) (by simp [sid]) (by simp [sid]) (by simp [sid]) (by simp [sid]) (by simp [sid])
    rwa [V.sub_id] at this
  · obtain ⟨e2, h2, h3⟩ := old id e1 h1
    have := EntOk.sub (σ := sid) (o' := s'.o) (fun _ _ h => h) g' rfl (fun b hb => ⟨rfl, ((hr.own.ent id e2 h2).blk hb).1⟩) (hr.own.ent id e2 h2)
    have e : Ent.sub sid e2 = e2 := by cases e2 <;> simp [Ent.sub, V.subl_id]
    rw [e] at this
    cases h3 with
    | same => exact this
    | var xs ys h =>
      obtain ⟨b, cs, t, k1, k2, k3, k4, k5, k6⟩ := this
      obtain ⟨m1, m2⟩ := LePl.ra h k4 k6
      exact ⟨b, cs, t, k1, k2, k3, m1, k5, m2⟩
    | arr fx e sz f l l' h => subst h; exact this
    | pin e sz f l l' h => subst h; exact this
    | arr' fx e sz f f' l l' hl h =>
      rcases this with ⟨k1, k2⟩ | ⟨b, cur, k1, k2, k3, k4, k5, k6⟩
      · exact .inl ⟨k1, List.eq_nil_of_length_eq_zero (by rw [← hl, k2]; rfl)⟩
      · refine .inr ⟨b, cur, k1, k2, k3, by rw [← hl]; exact k4, k5, fun i p' hp' => ?_⟩
        have hlt : i < l.length := by rw [hl]; exact (List.getElem?_eq_some_iff.1 hp').1
        have hp : l[i]? = some l[i] := List.getElem?_eq_getElem hlt
        obtain ⟨m1, m2⟩ := k6 i _ hp
        have hv := h i _ p' hp hp'
        refine ⟨by rw [← hv.1]; exact m1, fun j y hj => ?_⟩
        obtain ⟨x, n1, n2⟩ := CEqL.get hv hj
        obtain ⟨cv, n3, n4⟩ := m2 j x n1
        exact ⟨cv, n3, n2 _ _ _ n4⟩
  · obtain ⟨e3, h3, _⟩ := old id e1 h1
    obtain ⟨e4, h4, _⟩ := old id' e2 h2
    exact hr.own.inj id id' b e3 e4 h3 h4 hb1 hb2
  · cases h1 : olook s.o id with
    | none => exact hr.dom id h1
    | some e => obtain ⟨e', h2, _⟩ := ho id e h1; rw [h] at h2; cases h2
  · obtain ⟨e3, h3, _⟩ := old id e1 h1
    exact hr.fresh id e3 b h3 hb
  · obtain ⟨e3, h3, _⟩ := old id e1 h1
    exact hr.nw id e3 b hlt h3 hb
  · obtain ⟨e3, h3, _⟩ := old id e1 h1
    exact (hr.hold id ent0 e3 h0 h3 hp).trans (hsame id e3 h3)
  · obtain ⟨h1, h2⟩ := hr.mk2 id b hb hlt (by rw [← ht]; exact hm)
    exact ⟨h1, h2.imp_right fun ⟨h3, ent, h4⟩ => ⟨h3, let ⟨e', h5, _⟩ := ho id ent h4; ⟨e', h5⟩⟩⟩

end

/-! ### As a condition -/

/-- Own things that are told of no more. -/
def dropAll (o' : Own) : List Nat → St → St
  | [], s => s
  | x :: r, s => match olook o' x with
    | some _ => dropAll o' r s
    | none => dropAll o' r (dropO s x)
def dropsOk (o' : Own) : List Nat → Bool
  | [] => true
  | x :: r => (match olook o' x with
    | some _ => true
    | none => (ltN x 10000)) && dropsOk o' r
/-- Lists that are told of from now on. -/
def addAll : Own → St → St
  | [], s => s
  | (x, e) :: r, s => match olook s.o x with
    | some _ => addAll r s
    | none => match e with
      | .arr fx t sz f _ => addAll r ⟨s.e, (x, .arr fx t sz f []) :: s.o, s.t⟩
      | .var _ => addAll r s
def addsOk : Own → St → Bool
  | [], _ => true
  | (x, e) :: r, s => match olook s.o x with
    | some _ => addsOk r s
    | none => match e with
      | .arr fx t sz f _ => (ltN x 10000) && addsOk r ⟨s.e, (x, .arr fx t sz f []) :: s.o, s.t⟩
      | .var _ => false
def leE (o' : Own) (e : Env) : Env → Prop
  | [] => True
  | (k, y) :: r => LeP o' (look e k) y ∧ leE o' e r
def leSt0 (s s' : St) : Prop :=
  let s1 := dropAll s'.o (oids s.o) s
  bif dropsOk s'.o (oids s.o) && addsOk s'.o s1 then
    let s2 := addAll s'.o s1
    leO s'.o s2.o s'.o ∧ leE s'.o s2.e s'.e
  else False
/-- One state may be told as another. -/
def leSt (s s' : St) : Prop :=
  match s'.t with
  | [] => leSt0 ⟨s.e, s.o, []⟩ s'
  | _ => False

section
variable {P : Program} {c : Ctx} {z : From} {F : Nat → Prop} {β : Bt} {s : St} {tm : Array Value} {w : World}

theorem dropAll_sound (o' : Own) : ∀ (l : List Nat) {F : Nat → Prop} {β : Bt} {s : St}, dropsOk o' l = true → Rl P c z F β s tm w → ∃ F' β', Rl P c z F' β' (dropAll o' l s) tm w
  | [], F, β, s, _, hr => ⟨F, β, hr⟩
  | x :: r, F, β, s, h, hr => by
    simp only [dropsOk, Bool.and_eq_true] at h
    simp only [dropAll]
    cases hx : olook o' x with
    | some e => exact dropAll_sound o' r h.2 hr
    | none =>
      rw [hx] at h
      obtain ⟨F', β', hr'⟩ := hr.drop (X := x) (by simpa using h.1)
      exact dropAll_sound o' r h.2 hr'
theorem addAll_sound : ∀ (l : Own) {s : St}, addsOk l s = true → Rl P c z F β s tm w → Rl P c z F β (addAll l s) tm w
  | [], s, _, hr => hr
  | (x, e) :: r, s, h, hr => by
    simp only [addsOk] at h
    simp only [addAll]
    cases hx : olook s.o x with
    | some e' => rw [hx] at h; exact addAll_sound r h hr
    | none =>
      rw [hx] at h
      cases e with
      | var cs => cases h
      | arr fx t sz f l =>
        simp only [Bool.and_eq_true] at h
        exact addAll_sound r h.2 (hr.addNil (by simpa using h.1) hx fx t sz f)

theorem leE_spec {o' : Own} {e : Env} : ∀ (l : Env), leE o' e l → ∀ t, LeP o' (look e t) (look l t)
  | [], _, t => by simp only [look]; exact .junk _
  | (k, y) :: r, h, t => by
    simp only [leE] at h
    simp only [look]
    cases hb : (eqN k t) with
    | true =>
      have := eqN_true hb
      subst this
      exact h.1
    | false => exact leE_spec r h.2 t

theorem dropO_o (s : St) (X id : Nat) : olook (dropO s X).o id = if id = X then none else (olook s.o id).map (Ent.sub (spurge X)) := by
  simp only [dropO]
  rw [olook_subO, olook_oerase]
  by_cases e : id = X <;> simp [e]
theorem dropAll_none (o' : Own) : ∀ (l : List Nat) (s : St) (x : Nat), (x ∈ l ∨ olook s.o x = none) → olook o' x = none → olook (dropAll o' l s).o x = none
  | [], s, x, h, ho => by simpa [dropAll] using h
  | y :: r, s, x, h, ho => by
    simp only [dropAll]
    by_cases e : x = y
    · subst e
      rw [ho]
      exact dropAll_none o' r _ x (.inr (by rw [dropO_o]; simp)) ho
    · have h' : x ∈ r ∨ olook s.o x = none := by
        rcases h with h | h
        · rcases List.mem_cons.1 h with h | h
          · exact absurd h e
          · exact .inl h
        · exact .inr h
      cases olook o' y with
      | some _ => exact dropAll_none o' r s x h' ho
      | none => exact dropAll_none o' r _ x (h'.imp_right fun h => by rw [dropO_o, if_neg e, h]; rfl) ho
theorem addAll_none : ∀ (l : Own) (s : St) (x : Nat), olook s.o x = none → olook l x = none → olook (addAll l s).o x = none
  | [], s, x, h, _ => h
  | (y, e) :: r, s, x, h, hl => by
    simp only [olook] at hl
    have hyx : (eqN y x) = false := by
      cases hb : (eqN y x) with
      | false => rfl
      | true => rw [hb] at hl; cases hl
    rw [hyx] at hl
    simp only [addAll]
    cases olook s.o y with
    | some _ => exact addAll_none r s x h hl
    | none =>
      cases e with
      | var _ => exact addAll_none r s x h hl
      | arr fx t sz f l => exact addAll_none r _ x (by simp only [olook, hyx]; exact h) hl
theorem dropAll_t (o' : Own) : ∀ (l : List Nat) (s : St), (dropAll o' l s).t = s.t
  | [], s => rfl
  | x :: r, s => by
    simp only [dropAll]
    cases olook o' x with
    | some _ => exact dropAll_t o' r s
    | none => exact dropAll_t o' r _
theorem addAll_t : ∀ (l : Own) (s : St), (addAll l s).t = s.t
  | [], s => rfl
  | (x, e) :: r, s => by
    simp only [addAll]
    cases olook s.o x with
    | some _ => exact addAll_t r s
    | none => cases e with
      | var _ => exact addAll_t r s
      | arr _ _ _ _ _ => exact addAll_t r _

theorem leSt0_sound {s' : St} (h : leSt0 s s') (ht : s'.t = s.t) (hr : Rl P c z F β s tm w) : ∃ F' β', Rl P c z F' β' s' tm w := by
  simp only [leSt0] at h
  obtain ⟨h0, h1, h2⟩ := bif_true h
  simp only [Bool.and_eq_true] at h0
  obtain ⟨F', β', hr1⟩ := dropAll_sound s'.o (oids s.o) h0.1 hr
  have hr2 := addAll_sound s'.o h0.2 hr1
  refine ⟨F', β', hr2.retell (by rw [addAll_t, dropAll_t, ht]) (fun id hid => ?_) (fun id e he => ?_) (leE_spec _ h2)⟩
  · cases hx : olook s'.o id with
    | none => rfl
    | some e => obtain ⟨e1, e2, k1, _⟩ := leO_spec _ h1 id e hx; rw [hid] at k1; cases k1
  · cases hx : olook s'.o id with
    | some e' =>
      obtain ⟨e1, e2, k1, k2, k3⟩ := leO_spec _ h1 id e' hx
      rw [he] at k1; cases k1
      rw [hx] at k2; cases k2
      exact ⟨e', rfl, k3⟩
    | none =>
      have : olook (addAll s'.o (dropAll s'.o (oids s.o) s)).o id = none := by
        refine addAll_none _ _ _ (dropAll_none _ _ _ _ ?_ hx) hx
        cases h3 : olook s.o id with
        | none => exact .inr rfl
        | some e => exact .inl (olook_erase_ids h3)
      rw [he] at this; cases this

theorem leSt_sound {s' : St} (h : leSt s s') (hr : Rl P c z F β s tm w) : ∃ m F' β', Rl P c (z.mark m) F' β' s' tm w := by
  simp only [leSt] at h
  split at h
  · rename_i ht
    obtain ⟨F', β', hr'⟩ := leSt0_sound h ht hr.remark
    exact ⟨_, F', β', hr'⟩
  · exact h.elim

end
end Go.Vg
