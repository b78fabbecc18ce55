/- A variable that nobody turns any more. -/
import Derived.Test.YtnapnedfhimikaaDoorVgX
set_option maxRecDepth 4000
set_option linter.all false
set_option linter.unusedVariables false
set_option linter.unusedSimpArgs false
namespace Go.Vg
open Go

/-- What points to it points to cells now. -/
def sbox (X : Nat) (cs : List V) : Sub := ⟨.osl, fun id off => match eqN id X with
  | true => .rptr (cs.drop off)
  | false => .ptr id off, .eptr⟩
def boxE (s : St) (X : Nat) (cs : List V) : St := ⟨subE (sbox X cs) s.e, subO (sbox X cs) (oerase s.o X), s.t⟩

section
variable {P : Program} {c : Ctx} {z : From} {F : Nat → Prop} {β : Bt} {s : St} {tm : Array Value} {w : World}

theorem Rl.box (hr : Rl P c z F β s tm w) {X : Nat} (hX : X < 10000) {cs : List V} (he : olook s.o X = some (.var cs)) (hdat : isDatal cs = true) :
    ∃ F' β', Rl P c z F' β' (boxE s X cs) tm w ∧ ∀ v x, RA w F β s.o v x → RA w F' β' (boxE s X cs).o v (V.sub (sbox X cs) x) := by
  refine ⟨fun b => F b ∧ β X ≠ some b, fun id => if id = X then none else β id, ?_⟩
  have hd : ∀ v x, RD w F v x → RD w (fun b => F b ∧ β X ≠ some b) v x := hd_of (fun _ _ _ => rfl) (fun _ _ h => h.1) (Nat.le_refl _)
  have hol : ∀ id, olook (boxE s X cs).o id = if id = X then none else (olook s.o id).map (Ent.sub (sbox X cs)) := fun id => by
    simp only [boxE]
    rw [olook_subO, olook_oerase]
    by_cases e : id = X <;> simp [e]
  have hsame : ∀ id e1, id ≠ X → olook s.o id = some e1 → Same w β s.o w (fun id => if id = X then none else β id) (boxE s X cs).o id id := fun id e1 hne h1 => by
    refine ⟨by simp [hne], fun cs h => ⟨_, by rw [hol, if_neg hne, h]; rfl⟩, fun fx' e' sz' α' f' l' h => ⟨fx', α', f', l', by rw [hol, if_neg hne, h]; rfl, rfl, fun b cur hb hc => ⟨cur, hc, rfl⟩⟩⟩
  have hrep : ∀ v off, RA w F β s.o v (.ptr X off) → RD w (fun b => F b ∧ β X ≠ some b) v (.rptr (cs.drop off)) := fun v off hv => by
    obtain ⟨b, cs', hb, h1, rfl⟩ := RA.of_ptr hv
    rw [he] at h1; cases h1
    obtain ⟨b', cv, t, m1, m2, m3, m4, m5, m6⟩ := hr.own.ent X _ he
    rw [hb] at m1; cases m1
    have hget : ∀ (j : Nat) (y : V), (cs.drop off)[j]? = some y → ∃ v, cv[off + j]? = some v ∧ cs[off + j]? = some y := fun j y hj => by
      rw [List.getElem?_drop] at hj
      have hlt : off + j < cv.size := by rw [m4]; exact (List.getElem?_eq_some_iff.1 hj).1
      exact ⟨cv[off + j], Array.getElem?_eq_getElem hlt, hj⟩
    refine .rptr ⟨b, off, none⟩ _ rfl (fun h => h.2 hb) (blk_lt m3) (fun j => (cv[off + j]?).getD undef) (fun j y hj => ?_) (fun j y hj => ?_) (fun j y hj => ?_)
    · obtain ⟨v, g1, g2⟩ := hget j y hj
      simp only [g1, Option.getD_some]
      exact m5 v (Array.mem_of_getElem? g1)
    · obtain ⟨v, g1, g2⟩ := hget j y hj
      simp [World.cell?, m3, g1]
    · obtain ⟨v, g1, g2⟩ := hget j y hj
      simp only [g1, Option.getD_some]
      exact hd _ _ ((m6 _ v y g1 g2).data ((isDatal_iff _).1 hdat y (List.mem_of_getElem? g2)))
  have g : ∀ v x, RA w F β s.o v x → RA w (fun b => F b ∧ β X ≠ some b) (fun id => if id = X then none else β id) (boxE s X cs).o v (V.sub (sbox X cs) x) := fun v x hx => by
    refine RA.sub hd (fun v id hv => ?_) (fun v id off hv => ?_) (fun v id i off hv => ?_) (fun v id id' lo n he' hv => ?_) hx
    · obtain ⟨fx, e', sz, α, f, l, h1, _⟩ := RA.of_osl hv
      have hne : id ≠ X := fun e => by subst e; rw [he] at h1; cases h1
      exact (hsame id _ hne h1).osl hv
    · simp only [sbox]
      by_cases e : id = X
      · subst e; rw [eqN_self]; exact .d _ _ (hrep v off hv)
      · rw [beq_false (Ne.symm e)]
        obtain ⟨b, cs, _, h1, _⟩ := RA.of_ptr hv
        exact (hsame id _ e h1).ptr hv
    · obtain ⟨b, fx, e', sz, n, α, f, l, _, h1, _⟩ := RA.of_eptr hv
      have hne : id ≠ X := fun e => by subst e; rw [he] at h1; cases h1
      exact (hsame id _ hne h1).eptr hv
    · simp only [sbox, V.osl.injEq] at he'
      subst he'
      obtain ⟨fx, e', sz, α, f, l, i, m, h1, _⟩ := RA.of_view hv
      have hne : id ≠ X := fun e => by subst e; rw [he] at h1; cases h1
      exact (hsame id _ hne h1).view hv
  have s3 : ∀ (id off t : Nat) (b : Bool) (v : V), (sbox X cs).ptr id off ≠ .opt t b v := fun id off t b v => by simp only [sbox]; cases (eqN id X) <;> simp
  have s4 : ∀ (id off : Nat) (b : Bool), (sbox X cs).ptr id off ≠ .nb b := fun id off b => by simp only [sbox]; cases (eqN id X) <;> simp
  have hzb : ∀ b, β X = some b → z.w.heap.size ≤ b := fun b hb => hr.nw X _ b hX he hb
  have hblk : ∀ id e0 b, id ≠ X → olook s.o id = some e0 → β id = some b → F b ∧ β X ≠ some b := fun id e0 b hne h1 hb =>
    ⟨((hr.own.ent id e0 h1).blk hb).1, fun e => hne (hr.own.inj id X b e0 _ h1 he hb e)⟩
  refine ⟨?_, g⟩
  refine { n := hr.n, env := fun t => ?_, own := ⟨fun id e1 h1 => ?_, fun id id' b e1 e2 h1 h2 hb1 hb2 => ?_⟩, F0F := fun b h => ⟨hr.F0F b h, fun e => by have := hzb b e; have := hr.zlt b h; omega⟩, Fnew := fun b hb h => hr.Fnew b hb h.1, Flt := fun b h => hr.Flt b h.1,
           dom := fun id h => ?_, fresh := fun id e1 b h1 hb => ?_, keep := hr.keep, glob := ⟨fun gg cs hg => hd _ _ (hr.glob.ok gg cs hg)⟩, tab := hr.tab, eqs := hr.eqs, low := hr.low, pins := hr.pins, zlt := hr.zlt, nw := fun id e1 b hlt h1 hb => ?_, hold := fun id ent0 e1 h0 h1 hp => ?_, mk0 := hr.mk0, mk1 := fun b hb hn => let ⟨h1, h2⟩ := hr.mk1 b hb hn; ⟨h1, fun h => h2 h.1⟩, mk2 := fun id b hb hlt hm => ?_,
           prot := fun k o h => let ⟨h1, h2, h3⟩ := hr.prot k o h; ⟨⟨h1, h3 X⟩, h2, fun id hb => by
             by_cases e : id = X
             · rw [if_pos e] at hb; cases hb
             · rw [if_neg e] at hb; exact h3 id hb⟩ }
  · show RE _ _ _ _ _ _ (look (subE _ s.e) t)
    rw [look_subE]
    exact (hr.env t).sub g (by simp [sbox]) (by simp [sbox]) s3 s4 (by simp [sbox]) (by simp [sbox])
  · rw [hol] at h1
    by_cases e : id = X
    · rw [if_pos e] at h1; cases h1
    · rw [if_neg e] at h1
      simp only [Option.map_eq_some_iff] at h1
      obtain ⟨e2, h2, rfl⟩ := h1
      exact EntOk.sub hd g (by simp [e]) (fun b hb => ⟨rfl, hblk id e2 b e h2 hb⟩) (hr.own.ent id e2 h2)
  · rw [hol] at h1 h2
    by_cases e : id = X
    · rw [if_pos e] at h1; cases h1
    · by_cases e' : id' = X
      · rw [if_pos e'] at h2; cases h2
      · rw [if_neg e] at h1
        rw [if_neg e'] at h2
        simp only [Option.map_eq_some_iff] at h1 h2
        obtain ⟨e3, h3, _⟩ := h1
        obtain ⟨e4, h4, _⟩ := h2
        simp only [e, e', if_false] at hb1 hb2
        exact hr.own.inj id id' b e3 e4 h3 h4 hb1 hb2
  · rw [hol] at h
    by_cases e : id = X
    · simp [e]
    · rw [if_neg e] at h
      simp only [Option.map_eq_none_iff] at h
      simp only [e, if_false]
      exact hr.dom id h
  · rw [hol] at h1
    by_cases e : id = X
    · rw [if_pos e] at h1; cases h1
    · rw [if_neg e] at h1
      simp only [Option.map_eq_some_iff] at h1
      obtain ⟨e3, h3, _⟩ := h1
      simp only [e, if_false] at hb
      exact hr.fresh id e3 b h3 hb
  · rw [hol] at h1
    by_cases e : id = X
    · rw [if_pos e] at h1; cases h1
    · rw [if_neg e] at h1
      simp only [Option.map_eq_some_iff] at h1
      obtain ⟨e3, h3, _⟩ := h1
      simp only [e, if_false] at hb
      exact hr.nw id e3 b hlt h3 hb
  · have hne : id ≠ X := fun e => by have := hr.low id ent0 h0; omega
    rw [hol, if_neg hne] at h1
    simp only [Option.map_eq_some_iff] at h1
    obtain ⟨e3, h3, _⟩ := h1
    exact (hr.hold id ent0 e3 h0 h3 hp).trans (hsame id e3 hne h3)
  · obtain ⟨h1, h2⟩ := hr.mk2 id b hb hlt hm
    refine ⟨h1, ?_⟩
    rcases h2 with h2 | ⟨h2, ent1, h3⟩
    · exact .inl fun h => h2 h.1
    · by_cases e : id = X
      · exact .inl fun h => h.2 (e ▸ h2)
      · exact .inr ⟨by simp [e, h2], _, by rw [hol, if_neg e, h3]; rfl⟩
end
end Go.Vg
