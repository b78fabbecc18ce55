/- Calls that are handed own things, and hand own things back: the state behind. -/
import Derived.Test.YtnapnedfhimikaaDoorVgP
set_option maxRecDepth 4000
set_option linter.all false
set_option linter.unusedVariables false
set_option linter.unusedSimpArgs false
namespace Go.Vg
open Go

section
variable {P : Program} {c : Ctx} {z : From} {F : Nat → Prop} {β : Bt} {s : St} {tm : Array Value} {w : World}

theorem RA.purgeL {w w' : World} {F F' : Nat → Prop} {β β' : Bt} {o o' : Own} {l : List Nat} (hd : ∀ v x, RD w F v x → RD w' F' v x) (h : ∀ id ent, memN l id = false → olook o id = some ent → Same w β o w' β' o' id id) {v : Value} {x : V} (hx : RA w F β o v x) :
    RA w' F' β' o' v (V.sub (spurgeL l) x) := by
  refine RA.sub hd (fun v id hv => ?_) (fun v id off hv => ?_) (fun v id i off hv => ?_) (fun v id id' lo n he hv => ?_) hx
  · simp only [spurgeL]
    cases hb : memN l id with
    | true => exact .junk _
    | false =>
      obtain ⟨fx, e, sz, α, f, l, h1, _⟩ := RA.of_osl hv
      exact (h id _ hb h1).osl hv
  · simp only [spurgeL]
    cases hb : memN l id with
    | true => exact .junk _
    | false =>
      obtain ⟨b, cs, _, h1, _⟩ := RA.of_ptr hv
      exact (h id _ hb h1).ptr hv
  · simp only [spurgeL]
    cases hb : memN l id with
    | true => exact .junk _
    | false =>
      obtain ⟨b, fx, e, sz, n, α, f, l, _, h1, _⟩ := RA.of_eptr hv
      exact (h id _ hb h1).eptr hv
  · simp only [spurgeL] at he
    cases hb : memN l id with
    | true => rw [hb] at he; cases he
    | false =>
      rw [hb] at he
      simp only [cond_false, V.osl.injEq] at he
      subst he
      obtain ⟨fx, e, sz, α, f, l, i, m, h1, _⟩ := RA.of_view hv
      exact (h id _ hb h1).view hv
theorem RA.ren {w w' : World} {F F' : Nat → Prop} {β β' : Bt} {o o' : Own} {ι : Nat → Option Nat} (hd : ∀ v x, RD w F v x → RD w' F' v x) (h : ∀ id ent x, ι id = some x → olook o id = some ent → Same w β o w' β' o' id x) {v : Value} {x : V} (hx : RA w F β o v x) :
    RA w' F' β' o' v (V.sub (srn ι) x) := by
  refine RA.sub hd (fun v id hv => ?_) (fun v id off hv => ?_) (fun v id i off hv => ?_) (fun v id id' lo n he hv => ?_) hx
  · simp only [srn]
    split
    · rename_i x hx
      obtain ⟨fx, e, sz, α, f, l, h1, _⟩ := RA.of_osl hv
      exact (h id _ x hx h1).osl hv
    · exact .junk _
  · simp only [srn]
    split
    · rename_i x hx
      obtain ⟨b, cs, _, h1, _⟩ := RA.of_ptr hv
      exact (h id _ x hx h1).ptr hv
    · exact .junk _
  · simp only [srn]
    split
    · rename_i x hx
      obtain ⟨b, fx, e, sz, n, α, f, l, _, h1, _⟩ := RA.of_eptr hv
      exact (h id _ x hx h1).eptr hv
    · exact .junk _
  · simp only [srn] at he
    split at he
    · rename_i x hx
      simp only [V.osl.injEq] at he
      subst he
      obtain ⟨fx, e, sz, α, f, l, i, m, h1, _⟩ := RA.of_view hv
      exact (h id _ x hx h1).view hv
    · cases he

theorem spurgeL_safe (l : List Nat) : (∀ id t b v, (spurgeL l).osl id ≠ .opt t b v) ∧ (∀ id b, (spurgeL l).osl id ≠ .nb b) ∧ (∀ id off t b v, (spurgeL l).ptr id off ≠ .opt t b v) ∧ (∀ id off b, (spurgeL l).ptr id off ≠ .nb b) ∧
    (∀ id i off t b v, (spurgeL l).eptr id i off ≠ .opt t b v) ∧ (∀ id i off b, (spurgeL l).eptr id i off ≠ .nb b) := by
  refine ⟨fun id t b v => ?_, fun id b => ?_, fun id off t b v => ?_, fun id off b => ?_, fun id i off t b v => ?_, fun id i off b => ?_⟩ <;> simp only [spurgeL] <;> cases memN l id <;> simp

/-- Two tellings of one own thing: of one kind, and as long. -/
def KindEq : Ent → Ent → Prop
  | .var _, .var _ => True
  | .arr _ t sz _ l, .arr _ t' sz' _ l' => t = t' ∧ sz = sz' ∧ l.length = l'.length
  | _, _ => False

/-- The state behind a call that was handed own things. -/
theorem Rl.called (hr : Rl P c z F β s tm w) {w' : World} {F' : Nat → Prop} {oc o' : Own} {βc β' : Bt} {κ ι : Nat → Option Nat} {M : List Nat} {s' : St}
    -- what was handed over
    (hin : ∀ cid e0, olook oc cid = some e0 → ∃ X e, κ X = some cid ∧ βc cid = β X ∧ olook s.o X = some e ∧ KindEq e e0)
    -- what the call says
    (hF1 : ∀ b, F b → F' b) (hF2 : ∀ b, b < w.heap.size → F' b → F b) (hF3 : ∀ b, F' b → b < w'.heap.size) (hown : OwnOk w' F' β' o') (hdom : ∀ id, olook o' id = none → β' id = none) (hkeep : Keep (fun b => ∃ id ent, olook oc id = some ent ∧ βc id = some b) w w')
    (hfr : ∀ id ent b, olook o' id = some ent → β' id = some b → w.heap.size ≤ b ∨ ∃ id' ent', olook oc id' = some ent' ∧ βc id' = some b)
    (hhold : ∀ id ent0 ent, olook oc id = some ent0 → olook o' id = some ent → pinned ent0 = true → Same w βc oc w' β' o' id id)
    -- by which numbers
    (hκι : ∀ id cid, κ id = some cid ↔ ι cid = some id) (hcov : ∀ cid, (∃ id, κ id = some cid) ↔ ∃ ent, olook o' cid = some ent)
    -- who is in place, and who moved or is new
    (hM : ∀ id cid, κ id = some cid → memN M id = false → ∃ e0, olook oc cid = some e0 ∧ pinned e0 = true) (hMκ : ∀ id, memN M id = true → ∃ cid, κ id = some cid)
    (hMz : ∀ id ent0, memN M id = true → olook z.o id = some ent0 → pinned ent0 = false)
    (hnw : (∀ id cid, κ id = some cid → 10000 ≤ id) ∨ ∀ cid e0 X, olook oc cid = some e0 → κ X = some cid → X < 10000)
    -- the state
    (hA : ∀ t, look s'.e t = V.sub (spurgeL M) (look s.e t))
    (hB : ∀ id, olook s'.o id = match κ id with
      | some cid => (olook o' cid).map (Ent.sub (srn ι))
      | none => (olook s.o id).map (Ent.sub (spurgeL M)))
    (hT : ∀ id, memN s'.t id = false → κ id = none ∧ memN s.t id = false) :
    ∃ β'', Rl P c z F' β'' s' tm w' ∧ ∀ v x, RA w' F' β' o' v x → RA w' F' β'' s'.o v (V.sub (srn ι) x) := by
  refine ⟨fun id => match κ id with
    | some cid => β' cid
    | none => β id, ?_⟩
  generalize hβ : (fun id => match κ id with
    | some cid => β' cid
    | none => β id : Bt) = β''
  have b1 : ∀ id cid, κ id = some cid → β'' id = β' cid := fun id cid h => by subst hβ; simp [h]
  have b2 : ∀ id, κ id = none → β'' id = β id := fun id h => by subst hβ; simp [h]
  have oS : ∀ id cid, κ id = some cid → olook s'.o id = (olook o' cid).map (Ent.sub (srn ι)) := fun id cid h => by rw [hB, h]
  have oN : ∀ id, κ id = none → olook s'.o id = (olook s.o id).map (Ent.sub (spurgeL M)) := fun id h => by rw [hB, h]
  have hMN : ∀ id, κ id = none → memN M id = false := fun id h => by
    cases hm : memN M id with
    | false => rfl
    | true => obtain ⟨cid, hc⟩ := hMκ id hm; rw [h] at hc; cases hc
  -- the blocks that the call may have turned are own
  have hS : ∀ b, (∃ id ent, olook oc id = some ent ∧ βc id = some b) → ∃ X e cid, κ X = some cid ∧ β X = some b ∧ olook s.o X = some e := fun b ⟨id, ent, h1, h2⟩ => by
    obtain ⟨X, e, h3, h4, h5, _⟩ := hin id ent h1
    exact ⟨X, e, id, h3, by rw [← h4]; exact h2, h5⟩
  have hSF : ∀ b, (∃ id ent, olook oc id = some ent ∧ βc id = some b) → F b := fun b h => by
    obtain ⟨X, e, _, _, h1, h2⟩ := hS b h
    exact ((hr.own.ent X e h2).blk h1).1
  have hd : ∀ v x, RD w F v x → RD w' F' v x := fun v x h => h.keep hkeep hSF hF2
  have hkN : ∀ id e b, κ id = none → olook s.o id = some e → β id = some b → w'.heap[b]? = w.heap[b]? := fun id e b hn he hb => by
    obtain ⟨_, cs, t, h2⟩ := (hr.own.ent id e he).blk hb
    refine hkeep.block b (blk_lt h2) fun hs => ?_
    obtain ⟨X, e', cid, h3, h4, h5⟩ := hS b hs
    have := hr.own.inj id X b e e' he h5 hb h4
    subst this
    rw [hn] at h3; cases h3
  have sameN : ∀ id e, κ id = none → olook s.o id = some e → Same w β s.o w' β'' s'.o id id := fun id e hn he => by
    refine ⟨b2 id hn, fun cs h => ⟨_, by rw [oN id hn, h]; rfl⟩, fun fx t sz α f l h => ⟨fx, α, f, l, by rw [oN id hn, h]; rfl, rfl, fun b cur hb hc => ⟨cur, ?_, rfl⟩⟩⟩
    rw [hkN id e b hn he hb]; exact hc
  have sameR : ∀ cid ent id, ι cid = some id → olook o' cid = some ent → Same w' β' o' w' β'' s'.o cid id := fun cid ent id hi he => by
    have hk := (hκι id cid).2 hi
    refine ⟨b1 id cid hk, fun cs h => ⟨_, by rw [oS id cid hk, h]; rfl⟩, fun fx t sz α f l h => ⟨fx, α, f, l, by rw [oS id cid hk, h]; rfl, rfl, fun b cur hb hc => ⟨cur, hc, rfl⟩⟩⟩
  have sameI : ∀ id cid e, κ id = some cid → memN M id = false → olook s.o id = some e → Same w β s.o w' β'' s'.o id id := fun id cid e hk hm he => by
    obtain ⟨e0, h1, h2⟩ := hM id cid hk hm
    obtain ⟨X, e', h3, h4, h5, h6⟩ := hin cid e0 h1
    have hX : X = id := by
      have k1 := (hκι X cid).1 h3
      have k2 := (hκι id cid).1 hk
      rw [k1] at k2; cases k2; rfl
    subst hX
    rw [he] at h5; cases h5
    obtain ⟨ent, he'⟩ := (hcov cid).1 ⟨X, hk⟩
    have hsm := hhold cid e0 ent h1 he' h2
    have hrn := sameR cid ent X ((hκι X cid).1 hk) he'
    have hall := hsm.trans hrn
    refine ⟨hall.bt.trans h4, fun cs h => ?_, fun fx t sz α f l h => ?_⟩
    · rw [he] at h; cases h
      cases e0 with
      | var cs0 => exact hall.var cs0 h1
      | arr => exact h6.elim
    · rw [he] at h; cases h
      cases e0 with
      | var cs0 => exact h6.elim
      | arr fx0 t0 sz0 f0 l0 =>
        obtain ⟨rfl, rfl, h9⟩ := h6
        obtain ⟨fx', α', f', l', g1, g2, g3⟩ := hall.arr _ _ _ _ _ _ h1
        exact ⟨fx', α', f', l', g1, g2.trans h9.symm, fun b cur hb hc => g3 b cur (h4.trans hb) hc⟩
  have g : ∀ v x, RA w F β s.o v x → RA w' F' β'' s'.o v (V.sub (spurgeL M) x) := fun v x hx => RA.purgeL hd (fun id ent hm he => by
    cases hk : κ id with
    | none => exact sameN id ent hk he
    | some cid => exact sameI id cid ent hk hm he) hx
  have g2 : ∀ v x, RA w' F' β' o' v x → RA w' F' β'' s'.o v (V.sub (srn ι) x) := fun v x hx => RA.ren (fun _ _ h => h) (fun cid ent id hi he => sameR cid ent id hi he) hx
  have blkR : ∀ id cid b, κ id = some cid → β'' id = some b → ∃ ent, olook o' cid = some ent ∧ β' cid = some b := fun id cid b hk hb => by
    obtain ⟨ent, he⟩ := (hcov cid).1 ⟨id, hk⟩
    exact ⟨ent, he, by rw [← b1 id cid hk]; exact hb⟩
  have frR : ∀ id cid b, κ id = some cid → β'' id = some b → w.heap.size ≤ b ∨ ∃ X e cid', κ X = some cid' ∧ β X = some b ∧ olook s.o X = some e := fun id cid b hk hb => by
    obtain ⟨ent, he, hb'⟩ := blkR id cid b hk hb
    rcases hfr cid ent b he hb' with h | h
    · exact .inl h
    · obtain ⟨X, e, cid', h1, h2, h3⟩ := hS b h
      exact .inr ⟨X, e, cid', h1, h2, h3⟩
  obtain ⟨q1, q2, q3, q4, q5, q6⟩ := spurgeL_safe M
  refine ⟨{ n := hr.n, env := fun t => ?_, own := ⟨fun id e he => ?_, fun id id' b e e' he he' hb hb' => ?_⟩, F0F := fun b h => hF1 b (hr.F0F b h), Fnew := fun b hb h => hr.Fnew b hb (hF2 b (Nat.lt_of_lt_of_le hb hr.keep.size) h), Flt := hF3,
            dom := fun id h => ?_, fresh := fun id e b he hb => ?_, keep := ?_, glob := ⟨fun gg cs hg => hd _ _ (hr.glob.ok gg cs hg)⟩, tab := hr.tab, eqs := hr.eqs, low := hr.low, pins := hr.pins, zlt := hr.zlt, nw := fun id e b hlt he hb => ?_, hold := fun id ent0 e h0 he hp => ?_,
            mk0 := Nat.le_trans hr.mk0 hkeep.size, mk1 := fun b hb hn => ?_, mk2 := fun id b hb hlt hm => ?_, prot := fun k o h => ?_ }, g2⟩
  rotate_right
  · obtain ⟨h1, h2, h3⟩ := hr.prot k o h
    refine ⟨hF1 k h1, (hkeep.block k (blk_lt h2) fun hs => ?_).trans h2, fun id hb => ?_⟩
    · obtain ⟨X, _, _, _, h4, _⟩ := hS k hs
      exact h3 X h4
    · cases hk : κ id with
      | none => rw [b2 id hk] at hb; exact h3 id hb
      | some cid =>
        rcases frR id cid k hk hb with h | ⟨X, _, _, _, h4, _⟩
        · have := blk_lt h2; omega
        · exact h3 X h4
  · rw [hA]; exact (hr.env t).sub g q1 q2 q3 q4 q5 q6
  · cases hk : κ id with
    | none =>
      rw [oN id hk, Option.map_eq_some_iff] at he
      obtain ⟨e1, h1, rfl⟩ := he
      exact EntOk.sub hd g (b2 id hk) (fun b hb => ⟨hkN id e1 b hk h1 hb, hF1 b ((hr.own.ent id e1 h1).blk hb).1⟩) (hr.own.ent id e1 h1)
    | some cid =>
      rw [oS id cid hk, Option.map_eq_some_iff] at he
      obtain ⟨e1, h1, rfl⟩ := he
      have := hown.ent cid e1 h1
      cases e1 with
      | var cs =>
        obtain ⟨b, cv, t, k1, k2, k3, k4, k5, k6⟩ := this
        refine ⟨b, cv, t, (b1 id cid hk).trans k1, k2, k3, by simpa [V.subl_eq] using k4, k5, fun i v x hi hx => ?_⟩
        rw [V.subl_eq, List.getElem?_map, Option.map_eq_some_iff] at hx
        obtain ⟨y, hy, rfl⟩ := hx
        exact g2 _ _ (k6 i v y hi hy)
      | arr fx t sz f l =>
        rcases this with ⟨k1, k2⟩ | ⟨b, cur, k1, k2, k3, k4, k5, k6⟩
        · exact .inl ⟨(b1 id cid hk).trans k1, k2⟩
        · exact .inr ⟨b, cur, (b1 id cid hk).trans k1, k2, k3, k4, k5, k6⟩
  · have cross : ∀ id id' cid e, κ id = some cid → κ id' = none → olook s.o id' = some e → β'' id = some b → β'' id' = some b → False := fun id id' cid e hk hn he hb hb' => by
      rw [b2 id' hn] at hb'
      obtain ⟨_, cs, t, h2⟩ := (hr.own.ent id' e he).blk hb'
      rcases frR id cid b hk hb with h | ⟨X, e2, cid', h3, h4, h5⟩
      · have := blk_lt h2; omega
      · have := hr.own.inj id' X b e e2 he h5 hb' h4
        subst this
        rw [hn] at h3; cases h3
    cases hk : κ id with
    | none =>
      rw [oN id hk, Option.map_eq_some_iff] at he
      obtain ⟨e1, h1, _⟩ := he
      cases hk' : κ id' with
      | none =>
        rw [oN id' hk', Option.map_eq_some_iff] at he'
        obtain ⟨e2, h2, _⟩ := he'
        rw [b2 id hk] at hb
        rw [b2 id' hk'] at hb'
        exact hr.own.inj id id' b e1 e2 h1 h2 hb hb'
      | some cid' => exact (cross id' id cid' e1 hk' hk h1 hb' hb).elim
    | some cid =>
      cases hk' : κ id' with
      | none =>
        rw [oN id' hk', Option.map_eq_some_iff] at he'
        obtain ⟨e2, h2, _⟩ := he'
        exact (cross id id' cid e2 hk hk' h2 hb hb').elim
      | some cid' =>
        obtain ⟨e1, h1, h2⟩ := blkR id cid b hk hb
        obtain ⟨e2, h3, h4⟩ := blkR id' cid' b hk' hb'
        have := hown.inj cid cid' b e1 e2 h1 h3 h2 h4
        subst this
        have k1 := (hκι id cid).1 hk
        have k2 := (hκι id' cid).1 hk'
        rw [k1] at k2; cases k2; rfl
  · cases hk : κ id with
    | none =>
      rw [oN id hk] at h
      rw [b2 id hk]
      exact hr.dom id (by simpa using h)
    | some cid =>
      rw [oS id cid hk] at h
      rw [b1 id cid hk]
      exact hdom cid (by simpa using h)
  · cases hk : κ id with
    | none =>
      rw [oN id hk, Option.map_eq_some_iff] at he
      obtain ⟨e1, h1, _⟩ := he
      rw [b2 id hk] at hb
      exact hr.fresh id e1 b h1 hb
    | some cid =>
      rcases frR id cid b hk hb with h | ⟨X, e2, cid', h3, h4, h5⟩
      · exact .inl (Nat.le_trans hr.keep.size h)
      · exact hr.fresh X e2 b h5 h4
  · refine hr.keep.trans hkeep fun b hb hs => ?_
    obtain ⟨X, e, cid, h1, h2, h3⟩ := hS b hs
    rcases hr.fresh X e b h3 h2 with h | h
    · omega
    · exact h
  · cases hk : κ id with
    | none =>
      rw [oN id hk, Option.map_eq_some_iff] at he
      obtain ⟨e1, h1, _⟩ := he
      rw [b2 id hk] at hb
      exact hr.nw id e1 b hlt h1 hb
    | some cid =>
      obtain ⟨ent, he2, hb2⟩ := blkR id cid b hk hb
      rcases hfr cid ent b he2 hb2 with h | ⟨cid', e0, h3, h4⟩
      · exact Nat.le_trans hr.keep.size h
      · obtain ⟨X, e', h5, h6, h7, _⟩ := hin cid' e0 h3
        rcases hnw with hn | hn
        · have := hn id cid hk; omega
        · exact hr.nw X e' b (hn cid' e0 X h3 h5) h7 (by rw [← h6]; exact h4)
  · cases hk : κ id with
    | none =>
      rw [oN id hk, Option.map_eq_some_iff] at he
      obtain ⟨e1, h1, _⟩ := he
      exact (hr.hold id ent0 e1 h0 h1 hp).trans (sameN id e1 hk h1)
    | some cid =>
      cases hm : memN M id with
      | true => rw [hMz id ent0 hm h0] at hp; cases hp
      | false =>
        obtain ⟨e0, h1, _⟩ := hM id cid hk hm
        obtain ⟨X, e', h3, h4, h5, h6⟩ := hin cid e0 h1
        have hX : X = id := by
          have k1 := (hκι X cid).1 h3
          have k2 := (hκι id cid).1 hk
          rw [k1] at k2; cases k2; rfl
        subst hX
        exact (hr.hold X ent0 e' h0 h5 hp).trans (sameI X cid e' hk hm h5)
  · obtain ⟨h1, h2⟩ := hr.mk1 b hb hn
    have hlt := Nat.lt_of_lt_of_le hb hr.mk0
    exact ⟨(hkeep.block b hlt fun hs => h2 (hSF b hs)).trans h1, fun h => h2 (hF2 b hlt h)⟩
  · obtain ⟨hk, hm'⟩ := hT id hm
    obtain ⟨h1, h2⟩ := hr.mk2 id b hb hlt hm'
    have hlt' := Nat.lt_of_lt_of_le hlt hr.mk0
    rcases h2 with h2 | ⟨h2, ent1, h3⟩
    · exact ⟨(hkeep.block b hlt' fun hs => h2 (hSF b hs)).trans h1, .inl fun h => h2 (hF2 b hlt' h)⟩
    · exact ⟨(hkN id ent1 b hk h3 h2).trans h1, .inr ⟨(b2 id hk).trans h2, _, by rw [oN id hk, h3]; rfl⟩⟩

end
end Go.Vg
