/- The state behind an operation, and that it is as it is told. -/
import Derived.Test.YtnapnedfhimikaaDoorVgF
set_option maxRecDepth 4000
set_option linter.all false
set_option linter.unusedVariables false
set_option linter.unusedSimpArgs false
namespace Go.Vg
open Go

def oerase : Own → Nat → Own
  | [], _ => []
  | (k, v) :: r, n => bif (eqN k n) then oerase r n else (k, v) :: oerase r n
theorem olook_oerase (o : Own) (n id : Nat) : olook (oerase o n) id = if id = n then none else olook o id := by
  induction o with
  | nil => simp [oerase, olook]
  | cons a r ih =>
    obtain ⟨k, v⟩ := a
    simp only [oerase]
    cases h : (eqN k n) with
    | true =>
      have := eqN_true h
      subst this
      simp only [cond_true, ih, olook]
      by_cases e : id = k
      · simp [e]
      · have : (eqN k id) = false := by
          cases h' : (eqN k id) with
          | false => rfl
          | true => exact absurd (eqN_true h').symm e
        simp [e, this]
    | false =>
      simp only [cond_false, olook, ih]
      cases h' : (eqN k id) with
      | true =>
        have := eqN_true h'
        subst this
        have : k ≠ n := fun e => by subst e; simp at h
        simp [this]
      | false => simp

structure Out : Type 1 where
  v : V
  fz : List Nat
  ups : List (Nat × Bool × Ent)

/-- An own list is data from now on. -/
def sfrz (X : Nat) (rep : V) : Sub := ⟨fun id => bif (eqN id X) then rep else .osl id, .ptr, fun id i off => bif (eqN id X) then .junk else .eptr id i off⟩
def frz1 (s : St) (id : Nat) : St :=
  match olook s.o id with
  | some (.arr _ _ sz f l) => ⟨subE (sfrz id (.sl sz f l)) s.e, subO (sfrz id (.sl sz f l)) (oerase s.o id), s.t⟩
  | _ => s
def frz : List Nat → St → St
  | [], s => s
  | id :: r, s => frz r (frz1 s id)
def up1 (s : St) : Nat × Bool × Ent → St
  | (id, true, ent) => ⟨subE (spurge id) s.e, (id, Ent.sub (spurge id) ent) :: subO (spurge id) (oerase s.o id), id :: s.t⟩
  | (id, false, ent) => ⟨s.e, (id, ent) :: oerase s.o id, id :: s.t⟩
def idsU : List (Nat × Bool × Ent) → List Nat
  | [] => []
  | (id, _, _) :: r => id :: idsU r
def movedU : List (Nat × Bool × Ent) → List Nat
  | [] => []
  | (id, true, _) :: r => id :: movedU r
  | (_, false, _) :: r => movedU r
def entsOn : List (Nat × Bool × Ent) → Own → Own
  | [], o => o
  | (id, _, e) :: r, o => (id, e) :: entsOn r o
def oeraseL : List Nat → Own → Own
  | [], o => o
  | x :: r, o => oeraseL r (oerase o x)
def catN : List Nat → List Nat → List Nat
  | [], l => l
  | x :: r, l => x :: catN r l
def memN : List Nat → Nat → Bool
  | [], _ => false
  | x :: r, n => (eqN x n) || memN r n
/-- All refs to these are struck. -/
def spurgeL (l : List Nat) : Sub := ⟨fun id => bif memN l id then .junk else .osl id, fun id off => bif memN l id then .junk else .ptr id off, fun id i off => bif memN l id then .junk else .eptr id i off⟩
/-- Several at once. -/
def upMany (us : List (Nat × Bool × Ent)) (s : St) : St := ⟨subE (spurgeL (movedU us)) s.e, entsOn us (subO (spurgeL (movedU us)) (oeraseL (idsU us) s.o)), catN (idsU us) s.t⟩
def ups (us : List (Nat × Bool × Ent)) (s : St) : St :=
  match us with
  | [] => s
  | [u] => up1 s u
  | us => upMany us s
def St.after (s : St) (out : Out) : St := ups out.ups (frz out.fz s)

def killOpt (d : Nat) : V → V
  | .opt t b v => bif (eqN t d) then .junk else .opt t b v
  | x => x
def killE (d : Nat) : Env → Env
  | [] => []
  | (k, x) :: r => (k, killOpt d x) :: killE d r
def putR : Env → Nat → V → Env
  | [], k, v => [(k, v)]
  | (k, v) :: r, n, x => bif (eqN k n) then (n, x) :: r else (k, v) :: putR r n x
def put (e : Env) (d : Nat) (v : V) : Env := putR (killE d e) d v
theorem look_killE (e : Env) (d t : Nat) : look (killE d e) t = killOpt d (look e t) := by
  induction e with
  | nil => simp [killE, look, killOpt]
  | cons a r ih =>
    obtain ⟨k, x⟩ := a
    simp only [killE, look, ih]
    cases (eqN k t) <;> simp
theorem look_putR (e : Env) (d t : Nat) (v : V) : look (putR e d v) t = if t = d then v else look e t := by
  induction e with
  | nil =>
    simp only [putR, look]
    by_cases h : t = d
    · subst h; simp
    · have : (eqN d t) = false := by
        cases h' : (eqN d t) with
        | false => rfl
        | true => exact absurd (eqN_true h').symm h
      simp [this, h]
  | cons a r ih =>
    obtain ⟨k, x⟩ := a
    simp only [putR]
    cases h : (eqN k d) with
    | true =>
      have := eqN_true h
      subst this
      simp only [cond_true, look]
      by_cases h : t = k
      · subst h; simp
      · have : (eqN k t) = false := by
          cases h' : (eqN k t) with
          | false => rfl
          | true => exact absurd (eqN_true h').symm h
        simp [this, h]
    | false =>
      simp only [cond_false, look, ih]
      cases h' : (eqN k t) with
      | true =>
        have := eqN_true h'
        subst this
        have : k ≠ d := fun e => by subst e; simp at h
        simp [this]
      | false => simp
theorem look_put (e : Env) (d t : Nat) (v : V) : look (put e d v) t = if t = d then v else killOpt d (look e t) := by
  rw [put, look_putR, look_killE]

/-- Slot d, or none, holds a value. -/
def putO (N : Nat) (s : St) (d : Option Tmp) (v : V) : St :=
  match d with
  | some d => bif (ltN d N) then ⟨put s.e d v, s.o, s.t⟩ else s
  | none => s

/-- Input things that stay where they were. -/
def pinned : Ent → Bool
  | .var _ => true
  | .arr fx _ _ _ _ => fx

/-- Where a function began. -/
structure Mark : Type where
  w : World
  F : Nat → Prop
  β : Bt
structure From : Type 1 where
  w : World
  F : Nat → Prop
  β : Bt
  o : Own
  m : Mark
  /-- What lies where, and nobody turns. -/
  pr : Nat → Obj → Prop
def From.S (z : From) (b : Nat) : Prop := ∃ id ent, olook z.o id = some ent ∧ z.β id = some b

/-- The whole relation. -/
structure Rl (P : Program) (c : Ctx) (z : From) (F : Nat → Prop) (β : Bt) (s : St) (tm : Array Value) (w : World) : Prop extends Rel P c z.w z.F z.S F β s tm w where
  low : ∀ id ent, olook z.o id = some ent → 10000 ≤ id
  pins : ∀ id ent, olook z.o id = some ent → pinned ent = true → memN c.pin id = true
  zlt : ∀ b, z.F b → b < z.w.heap.size
  nw : ∀ id ent b, id < 10000 → olook s.o id = some ent → β id = some b → z.w.heap.size ≤ b
  hold : ∀ id ent0 ent, olook z.o id = some ent0 → olook s.o id = some ent → pinned ent0 = true → Same z.w z.β z.o w β s.o id id
  mk0 : z.m.w.heap.size ≤ w.heap.size
  mk1 : ∀ b, b < z.m.w.heap.size → ¬ z.m.F b → w.heap[b]? = z.m.w.heap[b]? ∧ ¬ F b
  mk2 : ∀ id b, z.m.β id = some b → b < z.m.w.heap.size → memN s.t id = false → w.heap[b]? = z.m.w.heap[b]? ∧ (¬ F b ∨ (β id = some b ∧ ∃ ent, olook s.o id = some ent))
  prot : ∀ k o, z.pr k o → F k ∧ w.heap[k]? = some o ∧ ∀ id, β id ≠ some k

section
variable {P : Program} {c : Ctx} {z : From} {F : Nat → Prop} {β : Bt} {s : St} {tm : Array Value} {w : World}

theorem RE.killOpt {o : Own} {val : Value} {x : V} {d : Nat} {u : Value} (h : RE w F β o tm val x) : RE w F β o (tm.setIfInBounds d u) val (killOpt d x) := by
  cases x with
  | opt t b v =>
    simp only [Vg.killOpt]
    cases hb : (eqN t d) with
    | true => exact .junk _
    | false =>
      have hne : d ≠ t := fun e => by subst e; simp at hb
      have : (tm.setIfInBounds d u).getD t undef = tm.getD t undef := by simp [Array.getElem?_setIfInBounds_ne hne]
      simp only [cond_false, RE, this]
      exact h
  | _ => exact h

/-- A slot is set. -/
theorem Rl.put (hr : Rl P c z F β s tm w) (d : Option Tmp) {val : Value} {x : V} (hx : RA w F β s.o val x) (a : Act) (ha : a.tmps = tm) : Rl P c z F β (putO c.N s d x) (a.put d val).tmps w := by
  subst ha
  cases d with
  | none => exact hr
  | some d =>
    simp only [putO, Act.put]
    cases hd : (ltN d c.N) with
    | false =>
      have hN : ¬ d < a.tmps.size := by rw [hr.n]; intro h; rw [show (ltN d c.N) = true from ltN_iff.2 h] at hd; cases hd
      have : a.tmps.setIfInBounds d val = a.tmps := by rw [Array.setIfInBounds, dif_neg hN]
      simp only [cond_false, this]
      exact hr
    | true =>
      have hN : d < a.tmps.size := by rw [hr.n]; simpa using hd
      simp only [cond_true]
      refine { hr with n := by simp [hr.n], env := fun t => ?_, own := hr.own, fresh := hr.fresh, hold := hr.hold, nw := hr.nw }
      simp only [look_put]
      by_cases e : t = d
      · subst e
        have : (a.tmps.setIfInBounds t val).getD t undef = val := by simp [hN]
        simp only [if_true, this]
        cases x <;> first | exact hx | (cases hx with | d _ _ h => cases h with | nilsl _ _ h => simp [V.elems] at h | slice _ _ _ h => simp [V.elems] at h)
      · have : (a.tmps.setIfInBounds d val).getD t undef = a.tmps.getD t undef := by simp [Array.getElem?_setIfInBounds_ne (Ne.symm e)]
        simp only [e, if_false, this]
        exact (hr.env t).killOpt

theorem hd_of {w w' : World} {F F' : Nat → Prop} (hk : ∀ b, b < w.heap.size → ¬ F b → w'.heap[b]? = w.heap[b]?) (hF : ∀ b, b < w.heap.size → F' b → F b) (hs : w.heap.size ≤ w'.heap.size) : ∀ v x, RD w F v x → RD w' F' v x :=
  fun _ _ h => h.carry fun b hb hn => ⟨hk b hb hn, fun q => hn (hF b hb q), Nat.lt_of_lt_of_le hb hs⟩

theorem RE.sub {w w' : World} {F F' : Nat → Prop} {β β' : Bt} {o o' : Own} {σ : Sub} (g : ∀ v x, RA w F β o v x → RA w' F' β' o' v (V.sub σ x)) {val : Value} {x : V} (h : RE w F β o tm val x)
    (h1 : ∀ id t b v, σ.osl id ≠ .opt t b v) (h2 : ∀ id b, σ.osl id ≠ .nb b) (h3 : ∀ id off t b v, σ.ptr id off ≠ .opt t b v) (h4 : ∀ id off b, σ.ptr id off ≠ .nb b) (h5 : ∀ id i off t b v, σ.eptr id i off ≠ .opt t b v) (h6 : ∀ id i off b, σ.eptr id i off ≠ .nb b) :
    RE w' F' β' o' tm val (V.sub σ x) := by
  cases x with
  | opt t b v =>
    simp only [V.sub, RE]
    rcases h with ⟨e1, e2⟩ | h
    · exact .inl ⟨e1, g _ _ e2⟩
    · exact .inr h
  | nb b => simp only [V.sub]; exact h
  | osl id =>
    have := g _ _ h
    simp only [V.sub] at this ⊢
    cases hx : σ.osl id <;> first | (rw [hx] at this; exact this) | exact absurd hx (h1 _ _ _ _) | exact absurd hx (h2 _ _)
  | view id lo n =>
    have := g _ _ h
    simp only [V.sub] at this ⊢
    split <;> rename_i hx <;> simp only [hx] at this <;> exact this
  | ptr id off =>
    have := g _ _ h
    simp only [V.sub] at this ⊢
    cases hx : σ.ptr id off <;> first | (rw [hx] at this; exact this) | exact absurd hx (h3 _ _ _ _ _) | exact absurd hx (h4 _ _ _)
  | eptr id i off =>
    have := g _ _ h
    simp only [V.sub] at this ⊢
    cases hx : σ.eptr id i off <;> first | (rw [hx] at this; exact this) | exact absurd hx (h5 _ _ _ _ _ _) | exact absurd hx (h6 _ _ _ _)
  | _ => exact g _ _ h

theorem EntOk.sub {w w' : World} {F F' : Nat → Prop} {β β' : Bt} {o o' : Own} {σ : Sub} {id : Nat} {ent : Ent} (hd : ∀ v x, RD w F v x → RD w' F' v x) (g : ∀ v x, RA w F β o v x → RA w' F' β' o' v (V.sub σ x))
    (hb : β' id = β id) (hh : ∀ b, β id = some b → w'.heap[b]? = w.heap[b]? ∧ F' b) (h : EntOk w F β o id ent) : EntOk w' F' β' o' id (Ent.sub σ ent) := by
  cases ent with
  | var cs =>
    obtain ⟨b, c, t, h1, h2, h3, h4, h5, h6⟩ := h
    refine ⟨b, c, t, hb.trans h1, (hh b h1).2, (hh b h1).1.trans h3, by simpa [V.subl_eq] using h4, h5, fun i v x hi hx => ?_⟩
    rw [V.subl_eq, List.getElem?_map, Option.map_eq_some_iff] at hx
    obtain ⟨y, hy, rfl⟩ := hx
    exact g _ _ (h6 i v y hi hy)
  | arr fx e sz f l =>
    rcases h with ⟨h1, h2⟩ | ⟨b, cur, h1, h2, h3, h4, h5, h6⟩
    · exact .inl ⟨hb.trans h1, h2⟩
    · exact .inr ⟨b, cur, hb.trans h1, (hh b h1).2, (hh b h1).1.trans h3, h4, h5, fun i p hp => ⟨(h6 i p hp).1, fun j y hy => let ⟨cv, k1, k2⟩ := (h6 i p hp).2 j y hy; ⟨cv, k1, hd _ _ k2⟩⟩⟩

theorem EntOk.blk {id : Nat} {ent : Ent} {o : Own} (h : EntOk w F β o id ent) {b : Nat} (hb : β id = some b) : F b ∧ ∃ cs t, w.heap[b]? = some (.cells cs t (0, 0)) := by
  cases ent with
  | var cs =>
    obtain ⟨b', c, t, h1, h2, h3, _⟩ := h
    rw [h1] at hb; cases hb
    exact ⟨h2, c, t, h3⟩
  | arr fx e sz f l =>
    rcases h with ⟨h1, _⟩ | ⟨b', cur, h1, h2, h3, _⟩
    · rw [h1] at hb; cases hb
    · rw [h1] at hb; cases hb
      exact ⟨h2, cur, e, h3⟩

theorem blk_lt {b : Nat} {o : Obj} (h : w.heap[b]? = some o) : b < w.heap.size := (Array.getElem?_eq_some_iff.1 h).1

theorem spurge_safe (X : Nat) : (∀ id t b v, (spurge X).osl id ≠ .opt t b v) ∧ (∀ id b, (spurge X).osl id ≠ .nb b) ∧ (∀ id off t b v, (spurge X).ptr id off ≠ .opt t b v) ∧ (∀ id off b, (spurge X).ptr id off ≠ .nb b) ∧
    (∀ id i off t b v, (spurge X).eptr id i off ≠ .opt t b v) ∧ (∀ id i off b, (spurge X).eptr id i off ≠ .nb b) := by
  refine ⟨fun id t b v => ?_, fun id b => ?_, fun id off t b v => ?_, fun id off b => ?_, fun id i off t b v => ?_, fun id i off b => ?_⟩ <;> simp only [spurge] <;> cases (eqN id X) <;> simp

/-- A new own thing, or one that was moved: all that pointed to it is struck. -/
theorem Rl.anew (hr : Rl P c z F β s tm w) {w' : World} {F' : Nat → Prop} {X : Nat} (hX : X < 10000 ∨ (∀ ent, olook z.o X = some ent → pinned ent = false)) {nb : Option Nat} {ent : Ent}
    (hk : ∀ b, b < w.heap.size → β X ≠ some b → w'.heap[b]? = w.heap[b]?) (hos : w'.os = w.os) (htp : w'.tape = w.tape) (hou : OutLe w w') (hsz : w.heap.size ≤ w'.heap.size)
    (hF1 : ∀ b, F b → F' b) (hF2 : ∀ b, b < w.heap.size → F' b → F b) (hF3 : ∀ b, F' b → b < w'.heap.size) (hfr : ∀ b, nb = some b → w.heap.size ≤ b ∨ β X = some b)
    (hent : EntOk w' F' (fun id => if id = X then nb else β id) (up1 s (X, true, ent)).o X (Ent.sub (spurge X) ent)) :
    Rl P c z F' (fun id => if id = X then nb else β id) (up1 s (X, true, ent)) tm w' := by
  have hdomX : ∀ b, β X = some b → ∃ e0, olook s.o X = some e0 := fun b hb => by
    cases h : olook s.o X with
    | some e => exact ⟨e, rfl⟩
    | none => rw [hr.dom X h] at hb; cases hb
  have hFX : ∀ b, β X = some b → F b := fun b hb => let ⟨e0, he⟩ := hdomX b hb; ((hr.own.ent X e0 he).blk hb).1
  have hk' : ∀ b, b < w.heap.size → ¬ F b → w'.heap[b]? = w.heap[b]? := fun b hb hn => hk b hb (fun e => hn (hFX b e))
  have hd := hd_of hk' hF2 hsz
  have hol : ∀ id, id ≠ X → olook (up1 s (X, true, ent)).o id = (olook s.o id).map (Ent.sub (spurge X)) := fun id hne => by
    have : (eqN X id) = false := by
      cases h' : (eqN X id) with
      | false => rfl
      | true => exact absurd (eqN_true h').symm hne
    simp [up1, olook, this, olook_subO, olook_oerase, hne]
  have holX : olook (up1 s (X, true, ent)).o X = some (Ent.sub (spurge X) ent) := by simp [up1, olook]
  have hblk : ∀ id e0 b, id ≠ X → olook s.o id = some e0 → β id = some b → w'.heap[b]? = w.heap[b]? ∧ F' b := fun id e0 b hne he hb => by
    obtain ⟨h1, cs, t, h2⟩ := (hr.own.ent id e0 he).blk hb
    refine ⟨hk b (blk_lt h2) (fun e => ?_), hF1 b h1⟩
    obtain ⟨e1, h⟩ := hdomX b e
    exact hne (hr.own.inj id X b e0 e1 he h hb e)
  have hsame : ∀ id ent0, id ≠ X → olook s.o id = some ent0 → Same w β s.o w' (fun id => if id = X then nb else β id) (up1 s (X, true, ent)).o id id := fun id ent0 hne he => by
    refine ⟨by simp [hne], fun cs h => ?_, fun fx e sz α f l h => ?_⟩
    · exact ⟨V.subl (spurge X) cs, by rw [hol id hne, h]; rfl⟩
    · refine ⟨fx, α, f, l, by rw [hol id hne, h]; rfl, rfl, fun b cur hb hc => ⟨cur, ?_, rfl⟩⟩
      rw [(hblk id _ b hne h hb).1]; exact hc
  have g : ∀ v x, RA w F β s.o v x → RA w' F' (fun id => if id = X then nb else β id) (up1 s (X, true, ent)).o v (V.sub (spurge X) x) := fun v x hx => RA.purge hd (fun id e0 hne he => hsame id e0 hne he) hx
  obtain ⟨q1, q2, q3, q4, q5, q6⟩ := spurge_safe X
  have hzS : ∀ b, z.S b → z.F b → True := fun _ _ _ => trivial
  refine { n := hr.n, env := fun t => ?_, own := ⟨fun id e0 he => ?_, fun id id' b e0 e1 h0 h1 hb hb' => ?_⟩, F0F := fun b h => hF1 b (hr.F0F b h), Fnew := fun b hb h => hr.Fnew b hb (hF2 b (Nat.lt_of_lt_of_le hb hr.keep.size) h), Flt := hF3,
           dom := fun id h => ?_, fresh := fun id e0 b he hb => ?_, keep := ?_, glob := ⟨fun gg cs hg => hd _ _ (hr.glob.ok gg cs hg)⟩, tab := hr.tab, eqs := hr.eqs, low := hr.low, pins := hr.pins, zlt := hr.zlt, nw := fun id e0 b hlt he hb => ?_, hold := fun id ent0 e1 h0 h1 hp => ?_, mk0 := Nat.le_trans hr.mk0 hsz, mk1 := fun b hb hn => ?_, mk2 := fun id b hb hlt hm => ?_, prot := fun k o h => ?_ }
  rotate_right
  · obtain ⟨h1, h2, h3⟩ := hr.prot k o h
    refine ⟨hF1 k h1, (hk k (blk_lt h2) (h3 X)).trans h2, fun id hb => ?_⟩
    by_cases e : id = X
    · rw [if_pos e] at hb
      rcases hfr k hb with h | h
      · have := blk_lt h2; omega
      · exact h3 X h
    · rw [if_neg e] at hb; exact h3 id hb
  · show RE _ _ _ _ _ _ (look (subE (spurge X) s.e) t)
    rw [look_subE]
    exact (hr.env t).sub g q1 q2 q3 q4 q5 q6
  · by_cases hne : id = X
    · subst hne
      rw [holX] at he; cases he
      exact hent
    · rw [hol id hne] at he
      simp only [Option.map_eq_some_iff] at he
      obtain ⟨e1, h1, rfl⟩ := he
      exact EntOk.sub hd g (by simp [hne]) (fun b hb => hblk id e1 b hne h1 hb) (hr.own.ent id e1 h1)
  · have lt : ∀ id e0 b, id ≠ X → olook (up1 s (X, true, ent)).o id = some e0 → β id = some b → b < w.heap.size ∧ β X ≠ some b := fun id e0 b hne h hb => by
      rw [hol id hne] at h
      simp only [Option.map_eq_some_iff] at h
      obtain ⟨e1, h1, rfl⟩ := h
      obtain ⟨_, cs, t, h2⟩ := (hr.own.ent id e1 h1).blk hb
      refine ⟨blk_lt h2, fun e => ?_⟩
      obtain ⟨e2, h3⟩ := hdomX b e
      exact hne (hr.own.inj id X b e1 e2 h1 h3 hb e)
    by_cases hne : id = X
    · by_cases hne' : id' = X
      · rw [hne, hne']
      · simp only [hne, if_true] at hb
        simp only [hne', if_false] at hb'
        obtain ⟨l1, l2⟩ := lt id' e1 b hne' h1 hb'
        rcases hfr b hb with h | h
        · omega
        · exact absurd h l2
    · simp only [hne, if_false] at hb
      obtain ⟨l1, l2⟩ := lt id e0 b hne h0 hb
      by_cases hne' : id' = X
      · simp only [hne', if_true] at hb'
        rcases hfr b hb' with h | h
        · omega
        · exact absurd h l2
      · simp only [hne', if_false] at hb'
        rw [hol id hne] at h0
        rw [hol id' hne'] at h1
        simp only [Option.map_eq_some_iff] at h0 h1
        obtain ⟨e2, h2, _⟩ := h0
        obtain ⟨e3, h3, _⟩ := h1
        exact hr.own.inj id id' b e2 e3 h2 h3 hb hb'
  · by_cases hne : id = X
    · subst hne; rw [holX] at h; cases h
    · rw [hol id hne] at h
      simp only [Option.map_eq_none_iff] at h
      simp only [hne, if_false]
      exact hr.dom id h
  · by_cases hne : id = X
    · simp only [hne, if_true] at hb
      rcases hfr b hb with h | h
      · exact .inl (Nat.le_trans hr.keep.size h)
      · obtain ⟨e1, h1⟩ := hdomX b h
        exact hr.fresh X e1 b h1 h
    · simp only [hne, if_false] at hb
      rw [hol id hne] at he
      simp only [Option.map_eq_some_iff] at he
      obtain ⟨e1, h1, rfl⟩ := he
      exact hr.fresh id e1 b h1 hb
  · refine ⟨hos.trans hr.keep.os, htp.trans hr.keep.tape, hou.trans hr.keep.output, Nat.le_trans hr.keep.size hsz, fun b hb hn => ?_⟩
    rw [hk b (Nat.lt_of_lt_of_le hb hr.keep.size) (fun e => ?_)]
    · exact hr.keep.block b hb hn
    · obtain ⟨e1, h1⟩ := hdomX b e
      rcases hr.fresh X e1 b h1 e with h | h
      · omega
      · exact hn h
  · by_cases hne : id = X
    · simp only [hne, if_true] at hb
      rcases hfr b hb with h | h
      · exact Nat.le_trans hr.keep.size h
      · obtain ⟨e1, h1⟩ := hdomX b h
        exact hr.nw X e1 b (hne ▸ hlt) h1 h
    · simp only [hne, if_false] at hb
      rw [hol id hne] at he
      simp only [Option.map_eq_some_iff] at he
      obtain ⟨e1, h1, rfl⟩ := he
      exact hr.nw id e1 b hlt h1 hb
  · have hne : id ≠ X := fun e => by
      subst e
      rcases hX with h | h
      · have := hr.low id ent0 h0; omega
      · rw [h ent0 h0] at hp; cases hp
    rw [hol id hne] at h1
    simp only [Option.map_eq_some_iff] at h1
    obtain ⟨e2, h2, _⟩ := h1
    have k1 := hr.hold id ent0 e2 h0 h2 hp
    have k2 := hsame id e2 hne h2
    refine ⟨k2.bt.trans k1.bt, fun cs h => ?_, fun fx e sz α f l h => ?_⟩
    · obtain ⟨cs', h'⟩ := k1.var cs h
      exact k2.var cs' h'
    · obtain ⟨fx1, α1, f1, l1, m1, m2, m3⟩ := k1.arr fx e sz α f l h
      obtain ⟨fx2, α2, f2, l2, m4, m5, m6⟩ := k2.arr _ _ _ _ _ _ m1
      refine ⟨fx2, α2, f2, l2, m4, m5.trans m2, fun b cur hb hc => ?_⟩
      obtain ⟨cur1, n1, n2⟩ := m3 b cur hb hc
      obtain ⟨cur2, n3, n4⟩ := m6 b cur1 (k1.bt.trans hb) n1
      exact ⟨cur2, n3, n4.trans n2⟩
  · obtain ⟨h1, h2⟩ := hr.mk1 b hb hn
    have hlt := Nat.lt_of_lt_of_le hb hr.mk0
    exact ⟨(hk b hlt fun e => h2 (hFX b e)).trans h1, fun h => h2 (hF2 b hlt h)⟩
  · simp only [up1, memN, Bool.or_eq_false_iff] at hm
    obtain ⟨h1, h2⟩ := hr.mk2 id b hb hlt hm.2
    have hlt' := Nat.lt_of_lt_of_le hlt hr.mk0
    have hne : id ≠ X := fun e => by subst e; simp at hm
    rcases h2 with h2 | ⟨h2, ent1, h3⟩
    · exact ⟨(hk b hlt' fun e => h2 (hFX b e)).trans h1, .inl fun h => h2 (hF2 b hlt' h)⟩
    · refine ⟨(hblk id ent1 b hne h3 h2).1.trans h1, .inr ⟨by simp [hne, h2], _, by rw [hol id hne, h3]; rfl⟩⟩

end
end Go.Vg
