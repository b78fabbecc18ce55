/- Further turns of the state. -/
import Derived.Test.YtnapnedfhimikaaDoorVgG
set_option maxRecDepth 4000
set_option linter.all false
set_option linter.unusedVariables false
set_option linter.unusedSimpArgs false
namespace Go.Vg
open Go

section
variable {P : Program} {c : Ctx} {z : From} {F : Nat → Prop} {β : Bt} {s : St} {tm : Array Value} {w : World}

theorem Same.trans {w1 w2 w3 : World} {β1 β2 β3 : Bt} {o1 o2 o3 : Own} {i1 i2 i3 : Nat} (h : Same w1 β1 o1 w2 β2 o2 i1 i2) (k : Same w2 β2 o2 w3 β3 o3 i2 i3) : Same w1 β1 o1 w3 β3 o3 i1 i3 := by
  refine ⟨k.bt.trans h.bt, fun cs hc => ?_, fun fx e sz α f l hc => ?_⟩
  · obtain ⟨cs', h'⟩ := h.var cs hc
    exact k.var cs' h'
  · obtain ⟨fx1, α1, f1, l1, m1, m2, m3⟩ := h.arr fx e sz α f l hc
    obtain ⟨fx2, α2, f2, l2, m4, m5, m6⟩ := k.arr _ _ _ _ _ _ m1
    refine ⟨fx2, α2, f2, l2, m4, m5.trans m2, fun b cur hb hc => ?_⟩
    obtain ⟨cur1, n1, n2⟩ := m3 b cur hb hc
    obtain ⟨cur2, n3, n4⟩ := m6 b cur1 (h.bt.trans hb) n1
    exact ⟨cur2, n3, n4.trans n2⟩

theorem beq_false {a b : Nat} (h : b ≠ a) : (eqN a b) = false := by
  cases h' : (eqN a b) with
  | false => rfl
  | true => exact absurd (eqN_true h').symm h

/-- Nothing own is written; there may be new blocks. -/
theorem Rl.world (hr : Rl P c z F β s tm w) {w' : World} {F' : Nat → Prop} (hk : ∀ b, b < w.heap.size → w'.heap[b]? = w.heap[b]?) (hos : w'.os = w.os) (htp : w'.tape = w.tape) (hou : OutLe w w') (hsz : w.heap.size ≤ w'.heap.size)
    (hF1 : ∀ b, F b → F' b) (hF2 : ∀ b, b < w.heap.size → F' b → F b) (hF3 : ∀ b, F' b → b < w'.heap.size) :
    Rl P c z F' β s tm w' ∧ (∀ v x, RD w F v x → RD w' F' v x) ∧ ∀ v x, RA w F β s.o v x → RA w' F' β s.o v x := by
  have hd : ∀ v x, RD w F v x → RD w' F' v x := hd_of (fun b hb _ => hk b hb) hF2 hsz
  have hblk : ∀ id e0 b, olook s.o id = some e0 → β id = some b → w'.heap[b]? = w.heap[b]? ∧ F' b := fun id e0 b he hb => by
    obtain ⟨h1, cs, t, h2⟩ := (hr.own.ent id e0 he).blk hb
    exact ⟨hk b (blk_lt h2), hF1 b h1⟩
  have hsame : ∀ id ent0, olook s.o id = some ent0 → Same w β s.o w' β s.o id id := fun id ent0 he => by
    refine ⟨rfl, fun cs h => ⟨cs, h⟩, fun fx e sz α f l h => ⟨fx, α, f, l, h, rfl, fun b cur hb hc => ⟨cur, ?_, rfl⟩⟩⟩
    rw [(hblk id _ b h hb).1]; exact hc
  have g : ∀ v x, RA w F β s.o v x → RA w' F' β s.o v x := fun v x hx => RA.stay hd hsame hx
  have g' : ∀ v x, RA w F β s.o v x → RA w' F' β s.o v (V.sub sid x) := fun v x hx => by rw [V.sub_id]; exact g v x hx
  refine ⟨{ n := hr.n, env := fun t => ?_, own := ⟨fun id e0 he => ?_, hr.own.inj⟩, F0F := fun b h => hF1 b (hr.F0F b h), Fnew := fun b hb h => hr.Fnew b hb (hF2 b (Nat.lt_of_lt_of_le hb hr.keep.size) h), Flt := hF3, dom := hr.dom,
            fresh := hr.fresh, keep := ?_, glob := ⟨fun gg cs hg => hd _ _ (hr.glob.ok gg cs hg)⟩, tab := hr.tab, eqs := hr.eqs, low := hr.low, pins := hr.pins, zlt := hr.zlt, nw := hr.nw, hold := fun id ent0 e1 h0 h1 hp => (hr.hold id ent0 e1 h0 h1 hp).trans (hsame id e1 h1), mk0 := Nat.le_trans hr.mk0 hsz,
            mk1 := fun b hb hn => let ⟨h1, h2⟩ := hr.mk1 b hb hn; have hlt := Nat.lt_of_lt_of_le hb hr.mk0; ⟨(hk b hlt).trans h1, fun h => h2 (hF2 b hlt h)⟩,
            mk2 := fun id b hb hlt hm => let ⟨h1, h2⟩ := hr.mk2 id b hb hlt hm; have hlt' := Nat.lt_of_lt_of_le hlt hr.mk0; ⟨(hk b hlt').trans h1, h2.imp (fun h2 h => h2 (hF2 b hlt' h)) (fun h => h)⟩,
            prot := fun k o h => let ⟨h1, h2, h3⟩ := hr.prot k o h; ⟨hF1 k h1, (hk k (blk_lt h2)).trans h2, h3⟩ }, hd, g⟩
  · have := (hr.env t).sub (σ := sid) g' (by simp [sid]) (by simp [sid]) (by simp [sid]) (by simp [sid]) (by simp [sid]) (by simp [sid])
    rwa [V.sub_id] at this
  · have := EntOk.sub (σ := sid) (o' := s.o) hd g' rfl (fun b hb => hblk id e0 b he hb) (hr.own.ent id e0 he)
    have e : Ent.sub sid e0 = e0 := by cases e0 <;> simp [Ent.sub, V.subl_id]
    rwa [e] at this
  · exact hr.keep.trans (S' := fun _ => False) ⟨hos, htp, hou, hsz, fun b hb _ => hk b hb⟩ (fun _ _ h => h.elim)

/-- One own thing is written in place. -/
theorem Rl.write (hr : Rl P c z F β s tm w) {w' : World} {X b : Nat} {e0 ent : Ent} (he : olook s.o X = some e0) (hb : β X = some b)
    (hk : ∀ b', b' < w.heap.size → b' ≠ b → w'.heap[b']? = w.heap[b']?) (hos : w'.os = w.os) (htp : w'.tape = w.tape) (hou : OutLe w w') (hsz : w'.heap.size = w.heap.size)
    (hsh : (∃ cs cs', e0 = .var cs ∧ ent = .var cs') ∨ ∃ fx e sz α α', ∃ (f : α → V) (l : List α) (f' : α' → V) (l' : List α'), e0 = .arr fx e sz f l ∧ ent = .arr fx e sz f' l' ∧ l'.length = l.length ∧
      ∀ cur, w.heap[b]? = some (.cells cur e (0, 0)) → ∃ cur', w'.heap[b]? = some (.cells cur' e (0, 0)) ∧ cur'.size = cur.size)
    (hent : (∀ v x, RA w F β s.o v x → RA w' F β (up1 s (X, false, ent)).o v x) → (∀ v x, RD w F v x → RD w' F v x) → EntOk w' F β (up1 s (X, false, ent)).o X ent) :
    Rl P c z F β (up1 s (X, false, ent)) tm w' := by
  have hFb : F b := ((hr.own.ent X e0 he).blk hb).1
  have hd : ∀ v x, RD w F v x → RD w' F v x := hd_of (fun b' hb' hn => hk b' hb' (fun e => hn (e ▸ hFb))) (fun _ _ h => h) (by omega)
  have hol : ∀ id, olook (up1 s (X, false, ent)).o id = if id = X then some ent else olook s.o id := fun id => by
    by_cases e : id = X
    · subst e; simp [up1, olook]
    · simp [up1, olook, beq_false e, olook_oerase, e]
  have hblk : ∀ id e1 b', id ≠ X → olook s.o id = some e1 → β id = some b' → w'.heap[b']? = w.heap[b']? ∧ F b' := fun id e1 b' hne h1 hb' => by
    obtain ⟨h2, cs, t, h3⟩ := (hr.own.ent id e1 h1).blk hb'
    exact ⟨hk b' (blk_lt h3) (fun e => hne (hr.own.inj id X b' e1 e0 h1 he hb' (e ▸ hb))), h2⟩
  have hsame : ∀ id e1, olook s.o id = some e1 → Same w β s.o w' β (up1 s (X, false, ent)).o id id := fun id e1 h1 => by
    by_cases e : id = X
    · subst e
      rw [he] at h1; cases h1
      refine ⟨rfl, fun cs h => ?_, fun fx ee sz α f l h => ?_⟩
      · rcases hsh with ⟨cs1, cs', g1, g2⟩ | ⟨fx, ee, sz, α, α', f, l, f', l', g1, g2, _⟩
        · exact ⟨cs', by rw [hol, if_pos rfl, g2]⟩
        · rw [he, g1] at h; cases h
      · rcases hsh with ⟨cs1, cs', g1, g2⟩ | ⟨fx1, e1, sz1, α1, α', f1, l1, f', l', g1, g2, g3, g4⟩
        · rw [he, g1] at h; cases h
        · rw [he, g1] at h
          simp only [Option.some.injEq, Ent.arr.injEq] at h
          obtain ⟨rfl, rfl, rfl, rfl, _, hl⟩ := h
          have hl := eq_of_heq hl
          subst hl
          refine ⟨fx1, α', f', l', by rw [hol, if_pos rfl, g2], g3, fun b' cur hb' hc => ?_⟩
          rw [hb] at hb'; cases hb'
          exact g4 cur hc
    · refine ⟨rfl, fun cs h => ⟨cs, by rw [hol, if_neg e]; exact h⟩, fun fx ee sz α f l h => ⟨fx, α, f, l, by rw [hol, if_neg e]; exact h, rfl, fun b' cur hb' hc => ⟨cur, ?_, rfl⟩⟩⟩
      rw [(hblk id _ b' e h hb').1]; exact hc
  have g : ∀ v x, RA w F β s.o v x → RA w' F β (up1 s (X, false, ent)).o v x := fun v x hx => RA.stay hd hsame hx
  have g' : ∀ v x, RA w F β s.o v x → RA w' F β (up1 s (X, false, ent)).o v (V.sub sid x) := fun v x hx => by rw [V.sub_id]; exact g v x hx
  have hlt : b < w.heap.size := let ⟨_, _, _, h⟩ := (hr.own.ent X e0 he).blk hb; blk_lt h
  refine { n := hr.n, env := fun t => ?_, own := ⟨fun id e1 h1 => ?_, fun id id' b' e1 e2 h1 h2 hb1 hb2 => ?_⟩, F0F := hr.F0F, Fnew := hr.Fnew, Flt := fun b' h => by rw [hsz]; exact hr.Flt b' h,
           dom := fun id h => ?_, fresh := fun id e1 b' h1 hb1 => ?_, keep := ?_, glob := ⟨fun gg cs hg => hd _ _ (hr.glob.ok gg cs hg)⟩, tab := hr.tab, eqs := hr.eqs, low := hr.low, pins := hr.pins, zlt := hr.zlt, nw := fun id e1 b' hlt h1 hb1 => ?_, hold := fun id ent0 e1 h0 h1 hp => ?_, mk0 := by rw [hsz]; exact hr.mk0, mk1 := fun b' hb' hn => ?_, mk2 := fun id b' hb' hlt hm => ?_,
           prot := fun k o h => let ⟨h1, h2, h3⟩ := hr.prot k o h; ⟨h1, (hk k (blk_lt h2) (fun e => h3 X (by rw [e]; exact hb))).trans h2, h3⟩ }
  · have := (hr.env t).sub (σ := sid) g' (by simp [sid]) (by simp [sid]) (by simp [sid]) (by simp [sid]) (by simp [sid]) (by simp [sid])
    rwa [V.sub_id] at this
  · rw [hol] at h1
    by_cases e : id = X
    · rw [if_pos e] at h1
      cases h1; subst e
      exact hent g hd
    · rw [if_neg e] at h1
      have := EntOk.sub (σ := sid) (o' := (up1 s (X, false, ent)).o) hd g' rfl (fun b' hb' => hblk id e1 b' e h1 hb') (hr.own.ent id e1 h1)
      have e : Ent.sub sid e1 = e1 := by cases e1 <;> simp [Ent.sub, V.subl_id]
      rwa [e] at this
  · have old : ∀ id e1, olook (up1 s (X, false, ent)).o id = some e1 → ∃ e2, olook s.o id = some e2 := fun id e1 h => by
      rw [hol] at h
      by_cases e : id = X
      · exact ⟨e0, e ▸ he⟩
      · rw [if_neg e] at h; exact ⟨e1, h⟩
    obtain ⟨e3, h3⟩ := old id e1 h1
    obtain ⟨e4, h4⟩ := old id' e2 h2
    exact hr.own.inj id id' b' e3 e4 h3 h4 hb1 hb2
  · rw [hol] at h
    by_cases e : id = X
    · rw [if_pos e] at h; cases h
    · rw [if_neg e] at h; exact hr.dom id h
  · rw [hol] at h1
    by_cases e : id = X
    · exact hr.fresh id e0 b' (e ▸ he) hb1
    · rw [if_neg e] at h1; exact hr.fresh id e1 b' h1 hb1
  · refine ⟨hos.trans hr.keep.os, htp.trans hr.keep.tape, hou.trans hr.keep.output, by rw [hsz]; exact hr.keep.size, fun b' hb' hn => ?_⟩
    rw [hk b' (Nat.lt_of_lt_of_le hb' hr.keep.size) (fun e => ?_)]
    · exact hr.keep.block b' hb' hn
    · subst e
      rcases hr.fresh X e0 b' he hb with h | h
      · omega
      · exact hn h
  · rw [hol] at h1
    by_cases e : id = X
    · exact hr.nw id e0 b' hlt (e ▸ he) hb1
    · rw [if_neg e] at h1; exact hr.nw id e1 b' hlt h1 hb1
  · rw [hol] at h1
    by_cases e : id = X
    · subst e
      exact (hr.hold id ent0 e0 h0 he hp).trans (hsame id e0 he)
    · rw [if_neg e] at h1
      exact (hr.hold id ent0 e1 h0 h1 hp).trans (hsame id e1 h1)
  · obtain ⟨h1, h2⟩ := hr.mk1 b' hb' hn
    exact ⟨(hk b' (Nat.lt_of_lt_of_le hb' hr.mk0) fun e => h2 (e ▸ hFb)).trans h1, h2⟩
  · simp only [up1, memN, Bool.or_eq_false_iff] at hm
    obtain ⟨h1, h2⟩ := hr.mk2 id b' hb' hlt hm.2
    have hne : id ≠ X := fun e => by subst e; simp at hm
    rcases h2 with h2 | ⟨h2, ent1, h3⟩
    · exact ⟨(hk b' (Nat.lt_of_lt_of_le hlt hr.mk0) fun e => h2 (e ▸ hFb)).trans h1, .inl h2⟩
    · exact ⟨(hblk id ent1 b' hne h3 h2).1.trans h1, .inr ⟨h2, _, by rw [hol, if_neg hne]; exact h3⟩⟩

/-- An own list becomes data. -/
theorem Rl.freeze (hr : Rl P c z F β s tm w) {X : Nat} (hX : X < 10000) :
    ∃ F' β', Rl P c z F' β' (frz1 s X) tm w ∧ (∀ v x, RD w F v x → RD w F' v x) ∧ ∀ v x, RA w F β s.o v x → RA w F' β' (frz1 s X).o v (match olook s.o X with
      | some (.arr _ _ sz f l) => V.sub (sfrz X (.sl sz f l)) x
      | _ => x) := by
  unfold frz1
  split
  case h_2 hn => exact ⟨F, β, hr, fun _ _ h => h, fun v x h => by
    split
    · rename_i q1 q2 q3 α f l he; exact absurd he (hn _ _ _ _ _ _)
    · exact h⟩
  rename_i fx e sz α f l he
  refine ⟨fun b => F b ∧ β X ≠ some b, fun id => if id = X then none else β id, ?_⟩
  have hd : ∀ v x, RD w F v x → RD w (fun b => F b ∧ β X ≠ some b) v x := hd_of (fun _ _ _ => rfl) (fun _ _ h => h.1) (Nat.le_refl _)
  rw [he]
  have hol : ∀ id, olook (subO (sfrz X (.sl sz f l)) (oerase s.o X)) id = if id = X then none else (olook s.o id).map (Ent.sub (sfrz X (.sl sz f l))) := fun id => by
    rw [olook_subO, olook_oerase]
    by_cases e : id = X <;> simp [e]
  have hsame : ∀ id e1, id ≠ X → olook s.o id = some e1 → Same w β s.o w (fun id => if id = X then none else β id) (subO (sfrz X (.sl sz f l)) (oerase s.o X)) id id := fun id e1 hne h1 => by
    refine ⟨by simp [hne], fun cs h => ⟨_, by rw [hol, if_neg hne, h]; rfl⟩, fun fx' e' sz' α' f' l' h => ⟨fx', α', f', l', by rw [hol, if_neg hne, h]; rfl, rfl, fun b cur hb hc => ⟨cur, hc, rfl⟩⟩⟩
  have hrep : ∀ v, RA w F β s.o v (.osl X) → RD w (fun b => F b ∧ β X ≠ some b) v (.sl sz f l) := fun v hv => by
    obtain ⟨fx1, e1, sz1, α1, f1, l1, h1, h2⟩ := RA.of_osl hv
    rw [he] at h1
    simp only [Option.some.injEq, Ent.arr.injEq] at h1
    obtain ⟨rfl, rfl, rfl, rfl, hf, hl⟩ := h1
    have hf := eq_of_heq hf
    have hl := eq_of_heq hl
    subst hf; subst hl
    rcases h2 with ⟨rfl, rfl⟩ | ⟨b, cc, cur, hb, rfl, k2, k3, k4, k5, k6⟩
    · exact .nilsl _ sz (by simp [V.elems])
    · rcases hr.own.ent X _ he with ⟨h, _⟩ | ⟨b', cur', m1, m2, m3, m4, m5, m6⟩
      · rw [h] at hb; cases hb
      · rw [hb] at m1; cases m1
        rw [k5] at m3; cases m3
        have hget : ∀ (i : Nat) (e : V), (l.map f)[i]? = some e → ∃ p, l[i]? = some p ∧ e = f p := fun i e h => by
          rw [List.getElem?_map, Option.map_eq_some_iff] at h
          obtain ⟨p, h1, h2⟩ := h
          exact ⟨p, h1, h2.symm⟩
        have hlen : l.length = (l.map f).length := by simp
        rw [hlen]
        refine .slice _ sz (l.map f) (by simp [V.elems]) (by simp) ⟨b, 0, none⟩ cc (by simpa using k2) (by simpa using k4) (fun _ => rfl) (fun _ h => h.2 hb) (fun _ => blk_lt k5) (fun i e h => ?_)
          (fun i j => (cur[i * sz + j]?).getD undef) (fun i e h j y hy => ?_) (fun i e h j y hy => ?_) (fun i e h j y hy => ?_)
        · obtain ⟨p, h1, rfl⟩ := hget i e h
          exact (m6 i p h1).1
        · obtain ⟨p, h1, rfl⟩ := hget i e h
          obtain ⟨cv, n1, n2⟩ := (m6 i p h1).2 j y hy
          simp only [n1, Option.getD_some]
          exact m5 cv (Array.mem_of_getElem? n1)
        · obtain ⟨p, h1, rfl⟩ := hget i e h
          obtain ⟨cv, n1, n2⟩ := (m6 i p h1).2 j y hy
          simp [World.cell?, k5, n1]
        · obtain ⟨p, h1, rfl⟩ := hget i e h
          obtain ⟨cv, n1, n2⟩ := (m6 i p h1).2 j y hy
          simp only [n1, Option.getD_some]
          exact hd _ _ n2
  have g : ∀ v x, RA w F β s.o v x → RA w (fun b => F b ∧ β X ≠ some b) (fun id => if id = X then none else β id) (subO (sfrz X (.sl sz f l)) (oerase s.o X)) v (V.sub (sfrz X (.sl sz f l)) x) := fun v x hx => by
    refine RA.sub hd (fun v id hv => ?_) (fun v id off hv => ?_) (fun v id i off hv => ?_) (fun v id id' lo n he hv => ?_) hx
    case refine_4 =>
      simp only [sfrz] at he
      cases hb : (eqN id X) with
      | true => rw [hb] at he; cases he
      | false =>
        rw [hb] at he
        simp only [cond_false, V.osl.injEq] at he
        subst he
        have hne : id ≠ X := fun e => by subst e; simp at hb
        obtain ⟨fx, e', sz, α, f, l, i, m, h1, _⟩ := RA.of_view hv
        exact (hsame id _ hne h1).view hv
    · simp only [sfrz]
      by_cases e : id = X
      · subst e
        simp only [eqN_self, cond_true]
        exact .d _ _ (hrep v hv)
      · rw [beq_false (Ne.symm e)]
        obtain ⟨fx, e', sz, α, f, l, h1, _⟩ := RA.of_osl hv
        exact (hsame id _ e h1).osl hv
    · obtain ⟨b, cs, _, h1, _⟩ := RA.of_ptr hv
      have hne : id ≠ X := fun e => by subst e; rw [he] at h1; cases h1
      exact (hsame id _ hne h1).ptr hv
    · simp only [sfrz]
      by_cases e : id = X
      · subst e; simp only [eqN_self, cond_true]; exact .junk _
      · rw [beq_false (Ne.symm e)]
        obtain ⟨b, fx, e', sz, n, α, f, l, _, h1, _⟩ := RA.of_eptr hv
        exact (hsame id _ e h1).eptr hv
  have s1 : ∀ (id t : Nat) (b : Bool) (v : V), (sfrz X (.sl sz f l)).osl id ≠ .opt t b v := fun id t b v => by simp only [sfrz]; cases (eqN id X) <;> simp
  have s2 : ∀ (id : Nat) (b : Bool), (sfrz X (.sl sz f l)).osl id ≠ .nb b := fun id b => by simp only [sfrz]; cases (eqN id X) <;> simp
  have s5 : ∀ (id : Nat) (i : IE) (off t : Nat) (b : Bool) (v : V), (sfrz X (.sl sz f l)).eptr id i off ≠ .opt t b v := fun id i off t b v => by simp only [sfrz]; cases (eqN id X) <;> simp
  have s6 : ∀ (id : Nat) (i : IE) (off : Nat) (b : Bool), (sfrz X (.sl sz f l)).eptr id i off ≠ .nb b := fun id i off b => by simp only [sfrz]; cases (eqN id X) <;> simp
  have hzb : ∀ b, β X = some b → z.w.heap.size ≤ b := fun b hb => hr.nw X _ b hX he hb
  have hblk : ∀ id e0 b, id ≠ X → olook s.o id = some e0 → β id = some b → F b ∧ β X ≠ some b := fun id e0 b hne h1 hb =>
    ⟨((hr.own.ent id e0 h1).blk hb).1, fun e => hne (hr.own.inj id X b e0 _ h1 he hb e)⟩
  refine ⟨?_, hd, g⟩
  refine { n := hr.n, env := fun t => ?_, own := ⟨fun id e1 h1 => ?_, fun id id' b e1 e2 h1 h2 hb1 hb2 => ?_⟩, F0F := fun b h => ⟨hr.F0F b h, fun e => by have := hzb b e; have := hr.zlt b h; omega⟩, Fnew := fun b hb h => hr.Fnew b hb h.1, Flt := fun b h => hr.Flt b h.1,
           dom := fun id h => ?_, fresh := fun id e1 b h1 hb => ?_, keep := hr.keep, glob := ⟨fun gg cs hg => hd _ _ (hr.glob.ok gg cs hg)⟩, tab := hr.tab, eqs := hr.eqs, low := hr.low, pins := hr.pins, zlt := hr.zlt, nw := fun id e1 b hlt h1 hb => ?_, hold := fun id ent0 e1 h0 h1 hp => ?_, mk0 := hr.mk0, mk1 := fun b hb hn => let ⟨h1, h2⟩ := hr.mk1 b hb hn; ⟨h1, fun h => h2 h.1⟩, mk2 := fun id b hb hlt hm => ?_,
           prot := fun k o h => let ⟨h1, h2, h3⟩ := hr.prot k o h; ⟨⟨h1, h3 X⟩, h2, fun id hb => by
             by_cases e : id = X
             · rw [if_pos e] at hb; cases hb
             · rw [if_neg e] at hb; exact h3 id hb⟩ }
  · show RE _ _ _ _ _ _ (look (subE _ s.e) t)
    rw [look_subE]
    exact (hr.env t).sub g s1 s2 (by simp [sfrz]) (by simp [sfrz]) s5 s6
  · simp only at h1
    rw [hol] at h1
    by_cases e : id = X
    · rw [if_pos e] at h1; cases h1
    · rw [if_neg e] at h1
      simp only [Option.map_eq_some_iff] at h1
      obtain ⟨e2, h2, rfl⟩ := h1
      exact EntOk.sub hd g (by simp [e]) (fun b hb => ⟨rfl, hblk id e2 b e h2 hb⟩) (hr.own.ent id e2 h2)
  · simp only at h1 h2
    rw [hol] at h1 h2
    by_cases e : id = X
    · rw [if_pos e] at h1; cases h1
    · by_cases e' : id' = X
      · rw [if_pos e'] at h2; cases h2
      · rw [if_neg e] at h1
        rw [if_neg e'] at h2
        simp only [Option.map_eq_some_iff] at h1 h2
        obtain ⟨e3, h3, _⟩ := h1
        obtain ⟨e4, h4, _⟩ := h2
        simp only [e, e', if_false] at hb1 hb2
        exact hr.own.inj id id' b e3 e4 h3 h4 hb1 hb2
  · simp only at h
    rw [hol] at h
    by_cases e : id = X
    · simp [e]
    · rw [if_neg e] at h
      simp only [Option.map_eq_none_iff] at h
      simp only [e, if_false]
      exact hr.dom id h
  · simp only at h1
    rw [hol] at h1
    by_cases e : id = X
    · rw [if_pos e] at h1; cases h1
    · rw [if_neg e] at h1
      simp only [Option.map_eq_some_iff] at h1
      obtain ⟨e3, h3, _⟩ := h1
      simp only [e, if_false] at hb
      exact hr.fresh id e3 b h3 hb
  · simp only at h1
    rw [hol] at h1
    by_cases e : id = X
    · rw [if_pos e] at h1; cases h1
    · rw [if_neg e] at h1
      simp only [Option.map_eq_some_iff] at h1
      obtain ⟨e3, h3, _⟩ := h1
      simp only [e, if_false] at hb
      exact hr.nw id e3 b hlt h3 hb
  · have hne : id ≠ X := fun e => by have := hr.low id ent0 h0; omega
    simp only at h1
    rw [hol, if_neg hne] at h1
    simp only [Option.map_eq_some_iff] at h1
    obtain ⟨e3, h3, _⟩ := h1
    exact (hr.hold id ent0 e3 h0 h3 hp).trans (hsame id e3 hne h3)
  · obtain ⟨h1, h2⟩ := hr.mk2 id b hb hlt hm
    refine ⟨h1, ?_⟩
    rcases h2 with h2 | ⟨h2, ent1, h3⟩
    · exact .inl fun h => h2 h.1
    · by_cases e : id = X
      · exact .inl fun h => h.2 (e ▸ h2)
      · exact .inr ⟨by simp [e, h2], _, by simp only; rw [hol, if_neg e, h3]; rfl⟩

end
end Go.Vg
