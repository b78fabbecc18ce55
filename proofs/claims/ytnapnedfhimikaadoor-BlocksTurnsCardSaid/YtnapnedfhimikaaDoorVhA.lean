/- From an answer that is worked out, step by step, to the conditions. -/
import Derived.Test.YtnapnedfhimikaaDoorVgZ
set_option maxRecDepth 4000
set_option linter.all false
set_option linter.unusedVariables false
set_option linter.unusedSimpArgs false
namespace Go.Vg
open Go

/-! ### What functions are worked out with -/
/-- So many rounds at most. -/
def iterN {α A : Type} (step : α → Option (α ⊕ A)) (n : Nat) : α → Option A :=
  Nat.rec (fun _ => none) (fun _ ih a => match step a with
    | none => none
    | some (.inl a') => ih a'
    | some (.inr r) => some r) n
def ROUNDS : Nat := 1208925819614629174706176
def iter {α A : Type} (step : α → Option (α ⊕ A)) : α → Option A := iterN step ROUNDS
theorem iterN_succ {α A : Type} (step : α → Option (α ⊕ A)) (n : Nat) (a : α) : iterN step (n + 1) a = match step a with
    | none => none
    | some (.inl a') => iterN step n a'
    | some (.inr r) => some r := rfl
def W (x : Int) : Int := IntKind.i64.wrap x
def idx {α : Type} (l : List α) (i : Int) : Option α := if 0 ≤ i then l[i.toNat]? else none
def upd {α : Type} (l : List α) (i : Int) (v : α) : Option (List α) := some (l.set i.toNat v)
def updf {α : Type} (l : List α) (i : Int) (f : α → α) : Option (List α) := (idx l i).map fun p => l.set i.toNat (f p)
def sub {α : Type} (l : List α) (lo hi : Int) : Option (List α) := if 0 ≤ lo ∧ lo ≤ hi ∧ hi ≤ l.length then some ((l.drop lo.toNat).take (hi.toNat - lo.toNat)) else none
def app {α : Type} (bytes : Nat) (l xs : List α) : Option (List α) := if (l.length + xs.length) * bytes ≤ 140737488355328 then some (l ++ xs) else none
def mks {α : Type} (bytes : Nat) (n : Int) (x : α) : Option (List α) := if 0 ≤ n ∧ n.toNat * bytes ≤ 140737488355328 ∧ n.toNat ≤ LIM then some (List.replicate n.toNat x) else none
/-- So many are copied over a part of a list. -/
def cpq {α : Type} (l : List α) (i m : Int) (xs : List α) : Option (List α × Nat) := if 0 ≤ i ∧ 0 ≤ m then some (l.take i.toNat ++ (xs.take (min xs.length m.toNat) ++ l.drop (i.toNat + min xs.length m.toNat)), min xs.length m.toNat) else none
/-- A part of a list is cleared. -/
def clr {α : Type} (l : List α) (i m : Int) (z : α) : Option (List α) := if 0 ≤ i ∧ 0 < m then some (l.take i.toNat ++ (List.replicate m.toNat z ++ l.drop (i.toNat + m.toNat))) else none
def need {A : Type} (c : Bool) (k : Option A) : Option A := if c = true then k else none

section
variable {P : Program} {c : Ctx} {s : St} {A X : Type} {r : A}

theorem den_none {p : Prop} (h : (none : Option A) = some r) : p := nomatch h
theorem den_out {α : Type} {F : Option A} {x : α ⊕ A} (h : F.map Sum.inr = some x) (hx : ∀ r', x = .inr r' → r' = r) : F = some r := by
  cases F with
  | none => cases h
  | some y => rw [Option.map_some, Option.some.injEq] at h; rw [hx y h.symm]
theorem den_br {q : BE} {A1 A2 : Option A} {T E : Unit → Prop} (h : (if q.den = true then A1 else A2) = some r) (ht : q.den = true → A1 = some r → T ()) (he : q.den = false → A2 = some r → E ()) : Branch q T E :=
  ⟨fun hq => ht hq (by rwa [if_pos hq] at h), fun hq => he hq (by rwa [if_neg (by simp [hq])] at h)⟩
theorem den_chk {q : BE} {A1 : Option A} {k : Unit → Prop} (h : need q.den A1 = some r) (hk : A1 = some r → k ()) : Chk q k := by
  unfold need at h
  split at h
  · exact ⟨‹_›, hk h⟩
  · cases h
theorem idx_some {α : Type} {l : List α} {i : Int} {p : α} (h : idx l i = some p) : 0 ≤ i ∧ i < l.length ∧ l[i.toNat]? = some p := by
  unfold idx at h
  split at h
  · have := (List.getElem?_eq_some_iff.1 h).1
    exact ⟨‹_›, by omega, h⟩
  · cases h
theorem den_elem {α : Type} {f : α → V} {l : List α} {i : IE} {K : α → Option A} {k : α → Prop} (h : (idx l i.den).bind K = some r) (hk : ∀ p, idx l i.den = some p → K p = some r → k p) : ElemP f l i k := by
  obtain ⟨p, h1, h2⟩ := Option.bind_eq_some_iff.1 h
  obtain ⟨g1, g2, g3⟩ := idx_some h1
  refine ⟨g1, g2, fun q hq _ => ?_⟩
  rw [g3] at hq; cases hq
  exact hk p h1 h2
theorem den_elemV {α : Type} {f : α → V} {vs : List V} {l : List α} {i : IE} {K : α → Option A} {k : V → Prop} (hvs : vs = l.map f) (h : (idx l i.den).bind K = some r) (hk : ∀ p, idx l i.den = some p → K p = some r → k (f p)) : ElemV vs i k := by
  subst hvs
  obtain ⟨p, h1, h2⟩ := Option.bind_eq_some_iff.1 h
  obtain ⟨g1, g2, g3⟩ := idx_some h1
  refine ⟨g1, by simpa using g2, fun q hq => ?_⟩
  rw [List.getElem?_map, g3] at hq; cases hq
  exact hk p h1 h2
theorem den_eload {α : Type} {f : α → V} {l : List α} {i : IE} {K : α → Option A} {k : α → Prop} (h : (idx l i.den).bind K = some r) (hk : ∀ p, idx l i.den = some p → K p = some r → k p) : EloadP f l i k := by
  obtain ⟨p, h1, h2⟩ := Option.bind_eq_some_iff.1 h
  obtain ⟨g1, g2, g3⟩ := idx_some h1
  refine ⟨fun q hq _ => ?_⟩
  rw [g3] at hq; cases hq
  exact hk p h1 h2
/-- A whole element is stored. -/
theorem den_estore {α : Type} {f : α → V} {l : List α} {i : IE} {off : Nat} {cs : List V} {K : List α → Option A} {k : List α → Prop} (v : α) (h : (upd l i.den v).bind K = some r) (hv : ∀ p, CEqL (setAt (cells (f p)) off cs) (cells (f v)))
    (hk : ∀ l', upd l i.den v = some l' → K l' = some r → k l') : EstoreP f l i off cs k :=
  ⟨fun p _ _ => ⟨v, hv p, fun l' hl => by subst hl; exact hk _ rfl h⟩⟩
/-- A part of an element is stored. -/
theorem den_estore' {α : Type} {f : α → V} {l : List α} {i : IE} {off : Nat} {cs : List V} {K : List α → Option A} {k : List α → Prop} (v : α → α) (h : (updf l i.den v).bind K = some r) (hv : ∀ p, CEqL (setAt (cells (f p)) off cs) (cells (f (v p))))
    (hk : ∀ l', updf l i.den v = some l' → K l' = some r → k l') : EstoreP f l i off cs k := by
  obtain ⟨l', h1, h2⟩ := Option.bind_eq_some_iff.1 h
  have h0 := h1
  unfold updf at h1
  obtain ⟨p, h3, h4⟩ := Option.map_eq_some_iff.1 h1
  obtain ⟨g1, g2, g3⟩ := idx_some h3
  refine ⟨fun q hq _ => ?_⟩
  rw [g3] at hq; cases hq
  exact ⟨v p, hv p, fun l'' hl => by rw [hl, h4]; exact hk l' h0 h2⟩
theorem sub_some {α : Type} {l l' : List α} {lo hi : Int} (h : sub l lo hi = some l') : 0 ≤ lo ∧ lo ≤ hi ∧ hi ≤ l.length ∧ l' = (l.drop lo.toNat).take (hi.toNat - lo.toNat) := by
  unfold sub at h
  split at h
  · rename_i hc
    cases h
    exact ⟨hc.1, hc.2.1, hc.2.2, rfl⟩
  · cases h
theorem den_sub {α : Type} {l : List α} {lo hi : IE} {K : List α → Option A} {k : List α → Prop} (h : (sub l lo.den hi.den).bind K = some r) (hk : ∀ l', sub l lo.den hi.den = some l' → K l' = some r → k l') : SubP l lo hi k := by
  obtain ⟨l', h1, h2⟩ := Option.bind_eq_some_iff.1 h
  obtain ⟨g1, g2, g3, g4⟩ := sub_some h1
  refine ⟨lo.den.toNat, hi.den.toNat, by omega, by omega, by omega, by omega, fun q hq => ?_⟩
  rw [← g4] at hq; subst hq
  exact hk _ h1 h2
theorem den_elemS {e : SE} {i : IE} {K : UInt8 → Option A} {k : UInt8 → Prop} (h : (idx e.den i.den).bind K = some r) (hk : ∀ b, idx e.den i.den = some b → K b = some r → k b) : ElemS e i k := by
  obtain ⟨p, h1, h2⟩ := Option.bind_eq_some_iff.1 h
  obtain ⟨g1, g2, g3⟩ := idx_some h1
  refine ⟨g1, by simpa using g2, fun q hq => ?_⟩
  rw [g3] at hq; cases hq
  exact hk p h1 h2
theorem den_str {o : Own} {x : V} {k : List UInt8 → Prop} (K : List UInt8 → Option A) (f : Int → V) (xs : List Int) (hx : News o 1 f xs x) (hf : ∀ n, f n = .int .u8 (.v n)) (h : K (bstr xs) = some r) (hk : ∀ bs, bs = bstr xs → K bs = some r → k bs) : StrP o x k :=
  ⟨f, xs, hx, hf, fun bs e => hk bs e (by rw [e]; exact h)⟩
theorem den_subo_f {α : Type} {l : List α} {lo hi : IE} {K : List α → Option A} {k : List α → Prop} {kv : IE → IE → Prop} {kt : List α → Prop} (h : (sub l lo.den hi.den).bind K = some r) (hk : ∀ l', sub l lo.den hi.den = some l' → K l' = some r → k l') : SubO l lo hi k kv kt :=
  .freeze (den_sub h hk)
theorem den_subo_v {α : Type} {l : List α} {lo hi : IE} {K : List α → Option A} {k : List α → Prop} {kv : IE → IE → Prop} {kt : List α → Prop} (h : (sub l lo.den hi.den).bind K = some r)
    (hk : ∀ (l' : List α) (i m : Int), i = lo.den → m = hi.den - lo.den → sub l lo.den hi.den = some l' → K l' = some r → kv (.v i) (.v m)) : SubO l lo hi k kv kt := by
  obtain ⟨l', h1, h2⟩ := Option.bind_eq_some_iff.1 h
  obtain ⟨g1, g2, g3, g4⟩ := sub_some h1
  exact .view (.v lo.den) (.v (hi.den - lo.den)) rfl rfl g1 g2 g3 (hk l' _ _ rfl rfl h1 h2)
theorem den_subo_t {α : Type} {l : List α} {lo hi : IE} {K : List α → Option A} {k : List α → Prop} {kv : IE → IE → Prop} {kt : List α → Prop} (h : (sub l lo.den hi.den).bind K = some r) (h0 : lo.den = 0) (hk : ∀ l', sub l lo.den hi.den = some l' → K l' = some r → kt l') : SubO l lo hi k kv kt := by
  obtain ⟨l', h1, h2⟩ := Option.bind_eq_some_iff.1 h
  obtain ⟨g1, g2, g3, g4⟩ := sub_some h1
  refine .take h0 hi.den.toNat (by omega) (by omega) fun q hq => ?_
  have : q = l' := by rw [hq, g4, h0]; simp
  rw [this]; exact hk l' h1 h2

theorem app_some {α : Type} {b : Nat} {l xs l' : List α} (h : app b l xs = some l') : (l.length + xs.length) * b ≤ 140737488355328 ∧ l' = l ++ xs := by
  unfold app at h
  split at h
  · cases h; exact ⟨‹_›, rfl⟩
  · cases h
theorem den_app_nil {α : Type} {bytes sz : Nat} {el : TypeId} {x : V} {o : Own} {xs : List α} {K : List α → Option A} {k : (α : Type) → (α → V) → List α → Prop} (f : α → V) (h : (app bytes [] xs).bind K = some r) (hx : News o sz f xs x) (hk : ∀ l', app bytes [] xs = some l' → K l' = some r → k α f l') : AppP bytes sz el .nilsl x o k := by
  obtain ⟨l', h1, h2⟩ := Option.bind_eq_some_iff.1 h
  obtain ⟨g1, g2⟩ := app_some h1
  refine .nil f xs rfl hx (by simpa using g1) fun q hq => ?_
  have : q = l' := by rw [hq, g2]; rfl
  rw [this]; exact hk l' h1 h2
theorem den_app_own {α : Type} {bytes sz : Nat} {el : TypeId} {x : V} {o : Own} {id : Nat} {l xs : List α} {K : List α → Option A} {k : (α : Type) → (α → V) → List α → Prop} (f : α → V) (h : (app bytes l xs).bind K = some r) (ho : olook o id = some (.arr false el sz f l)) (hx : News o sz f xs x) (hk : ∀ l', app bytes l xs = some l' → K l' = some r → k α f l') : AppP bytes sz el (.osl id) x o k := by
  obtain ⟨l', h1, h2⟩ := Option.bind_eq_some_iff.1 h
  obtain ⟨g1, g2⟩ := app_some h1
  refine .own f l xs id rfl ho hx g1 fun q hq => ?_
  rw [hq, ← g2]; exact hk l' h1 h2
theorem mks_some {α : Type} {b : Nat} {n : Int} {x : α} {l : List α} (h : mks b n x = some l) : 0 ≤ n ∧ n.toNat * b ≤ 140737488355328 ∧ n.toNat ≤ LIM ∧ l = List.replicate n.toNat x := by
  unfold mks at h
  split at h
  · rename_i hc; cases h; exact ⟨hc.1, hc.2.1, hc.2.2, rfl⟩
  · cases h
theorem den_make {α : Type} {bytes : Nat} {n : IE} {zero : List V} {x : α} {K : List α → Option A} {k : (α : Type) → (α → V) → List α → Prop} (f : α → V) (h : (mks bytes n.den x).bind K = some r) (hz : CEqL zero (cells (f x))) (hk : ∀ l, mks bytes n.den x = some l → K l = some r → k α f l) : MakeP bytes n zero k := by
  obtain ⟨l', h1, h2⟩ := Option.bind_eq_some_iff.1 h
  obtain ⟨g1, g2, g3, g4⟩ := mks_some h1
  refine .mk f x n.den.toNat (by omega) g2 g3 hz fun q hq => ?_
  rw [hq, ← g4]; exact hk l' h1 h2

theorem den_call {f : FuncId} {vs data lent : List V} {ids : List Nat} {k : Out → Prop} {F : Option X} {K : X → Option A} (enc : X → V) (args : List V) (h : F.bind K = some r) (hv : ∀ x, F = some x → AVal P c.G f args (enc x)) (hle : LePl [] data args) (hl : allLow ids = true) (hd : isDatal data = true) (hr : ∀ x, isData (enc x) = true) (hk : ∀ x, F = some x → K x = some r → k ⟨enc x, ids, []⟩) : CallP P c f vs s data lent ids k := by
  obtain ⟨x, h1, h2⟩ := Option.bind_eq_some_iff.1 h
  exact .data (enc x) (AVal.le (hv x h1) hle) hl hd (hr x) fun _ => hk x h1 h2
theorem den_lend {f : FuncId} {vs data lent : List V} {ids : List Nat} {k : Out → Prop} {F : Option X} {K : X → Option A} (enc : X → V) (args : List V) (h : F.bind K = some r) (hv : ∀ x, F = some x → AVal P c.G f args (enc x)) (hle : LePl [] lent args) (hr : ∀ x, flat (enc x) = true) (hk : ∀ x, F = some x → K x = some r → k ⟨enc x, [], []⟩) : CallP P c f vs s data lent ids k := by
  obtain ⟨x, h1, h2⟩ := Option.bind_eq_some_iff.1 h
  exact .lend (enc x) (AVal.le (hv x h1) hle) (hr x) fun _ => hk x h1 h2
/-- Own things are handed over, and handed back. -/
theorem den_own {f : FuncId} {vs data lent : List V} {ids : List Nat} {k : Out → Prop} {F : Option X} {K : X → Option A} (outs : Outs) (fz : List Nat) (enc : X → V) (oc : Own) (o1 : X → Own) (args : List V) (h : F.bind K = some r) (hv : ∀ x, F = some x → ACalls P c.G f args oc (fun y o' => y = enc x ∧ o' = o1 x)) (hc : ∀ x, ownOk c outs fz (frz fz s) oc (o1 x) = true) (hl : LePl oc (V.subl (srn (kap (insO outs))) (subFz fz s vs)) args) (hs : subN (oids (ocOf (insO outs) (frz fz s) (srn (kap (insO outs))))) (oids oc) = true) (ho : leO oc (ocOf (insO outs) (frz fz s) (srn (kap (insO outs)))) oc) (hk : ∀ x, F = some x → K x = some r → k ⟨V.sub (srn (iot outs)) (enc x), fz, twice (usOf outs (o1 x) (srn (iot outs)))⟩) : CallP P c f vs s data lent ids k := by
  obtain ⟨x, h1, h2⟩ := Option.bind_eq_some_iff.1 h
  exact .own outs fz args oc (o1 x) (enc x) (hv x h1) (hc x) hl hs ho fun _ => hk x h1 h2

theorem den_view {α : Type} {l : List α} {lo hi : IE} {K : List α → Option A} {k : IE → IE → Prop} (h : (sub l lo.den hi.den).bind K = some r) (hk : ∀ (l' : List α) (i m : Int), i = lo.den → m = hi.den - lo.den → sub l lo.den hi.den = some l' → K l' = some r → k (.v i) (.v m)) : ViewP l lo hi k := by
  obtain ⟨l', h1, h2⟩ := Option.bind_eq_some_iff.1 h
  obtain ⟨g1, g2, g3, g4⟩ := sub_some h1
  exact .mk (.v lo.den) (.v (hi.den - lo.den)) rfl rfl g1 g2 g3 (hk l' _ _ rfl rfl h1 h2)
theorem cpq_some {α : Type} {l : List α} {i m : Int} {xs : List α} {c : List α × Nat} (h : cpq l i m xs = some c) : 0 ≤ i ∧ 0 ≤ m ∧ c.2 = min xs.length m.toNat ∧ c.1 = l.take i.toNat ++ (xs.take c.2 ++ l.drop (i.toNat + c.2)) := by
  unfold cpq at h
  split at h
  · rename_i hc; cases h; exact ⟨hc.1, hc.2, rfl, rfl⟩
  · cases h
theorem den_copy {α : Type} {l xs : List α} {id : Nat} {fx : Bool} {e : TypeId} {sz : Nat} {x d : V} {o : Own} {A0 : Option A} {K : List α × Nat → Option A} {k0 : Unit → Prop} {k : (id : Nat) → Bool → TypeId → (α : Type) → (α → V) → List α → Nat → Prop} (f : α → V) (i m : Int)
    (h : (cpq l i m xs).bind (fun c => if decide (0 < c.2) = true then K c else A0) = some r) (ho : olook o id = some (.arr fx e sz f l)) (hd : (d = .osl id ∧ i = 0 ∧ m = l.length) ∨ ∃ lo n, d = .view id lo n ∧ lo.den = i ∧ n.den = m) (hx : News o sz f xs x)
    (h0 : A0 = some r → k0 ()) (hk : ∀ c : List α × Nat, cpq l i m xs = some c → K c = some r → k id fx e α f c.1 c.2) : CopyP sz d x o k0 k := by
  obtain ⟨c, h1, h2⟩ := Option.bind_eq_some_iff.1 h
  obtain ⟨g1, g2, g3, g4⟩ := cpq_some h1
  by_cases hc : 0 < c.2
  · rw [if_pos (by simpa using hc)] at h2
    refine .some f l xs id fx e i.toNat m.toNat c.2 ho ?_ hx g3 hc fun l' hl' => ?_
    · rcases hd with ⟨q1, q2, q3⟩ | ⟨lo, n, q1, q2, q3⟩
      · exact .inl ⟨q1, by omega, by omega⟩
      · exact .inr ⟨lo, n, q1, by omega, by omega⟩
    · rw [hl', ← g4]; exact hk c h1 h2
  · rw [if_neg (by simpa using hc)] at h2
    obtain ⟨es, n1, n2, n3⟩ := hx
    have hd' : ∃ es', velems o d = some (sz, es') ∧ (m.toNat = 0 → es' = []) := by
      rcases hd with ⟨q1, q2, q3⟩ | ⟨lo, n, q1, q2, q3⟩
      · subst q1
        refine ⟨l.map f, by simp [velems, ho], fun hm => ?_⟩
        have : l.length = 0 := by omega
        simp [List.eq_nil_of_length_eq_zero this]
      · subst q1
        refine ⟨_, by simp only [velems, ho]; rfl, fun hm => ?_⟩
        rw [q3, hm]; simp
    obtain ⟨es', m1, m2⟩ := hd'
    refine .none sz sz es es' n1 m1 ?_ (h0 h2)
    rcases Nat.eq_zero_or_pos xs.length with hz | hz
    · left; exact List.eq_nil_of_length_eq_zero (by omega)
    · right; exact m2 (by omega)
theorem den_clear {α : Type} {l : List α} {id : Nat} {fx : Bool} {e : TypeId} {sz : Nat} {zero : List V} {d : V} {o : Own} {A0 : Option A} {K : List α → Option A} {k0 : Unit → Prop} {k : (id : Nat) → Bool → TypeId → (α : Type) → (α → V) → List α → Prop} (f : α → V) (i m : Int) (z : α)
    (h : (if decide (0 < m) = true then (clr l i m z).bind K else A0) = some r) (ho : olook o id = some (.arr fx e sz f l)) (hd : (d = .osl id ∧ i = 0 ∧ m = l.length) ∨ ∃ lo n, d = .view id lo n ∧ lo.den = i ∧ n.den = m) (hz : CEqL zero (cells (f z)))
    (h0 : A0 = some r → k0 ()) (hk : ∀ l', clr l i m z = some l' → K l' = some r → k id fx e α f l') : ClearP sz zero d o k0 k := by
  by_cases hc : 0 < m
  · rw [if_pos (by simpa using hc)] at h
    obtain ⟨l', h1, h2⟩ := Option.bind_eq_some_iff.1 h
    have h3 := h1
    unfold clr at h3
    split at h3
    · rename_i hi
      cases h3
      refine .some f l id fx e i.toNat m.toNat z ho ?_ (by omega) hz fun l' hl' => ?_
      · rcases hd with ⟨q1, q2, q3⟩ | ⟨lo, n, q1, q2, q3⟩
        · exact .inl ⟨q1, by omega, by omega⟩
        · exact .inr ⟨lo, n, q1, by omega, by omega⟩
      · rw [hl']; exact hk _ h1 h2
    · cases h3
  · rw [if_neg (by simpa using hc)] at h
    rcases hd with ⟨q1, q2, q3⟩ | ⟨lo, n, q1, q2, q3⟩
    · subst q1
      have : l.length = 0 := by omega
      refine .none sz ?_ (h0 h)
      simp [velems, ho, List.eq_nil_of_length_eq_zero this]
    · subst q1
      refine .none sz ?_ (h0 h)
      simp only [velems, ho, q3, show m.toNat = 0 by omega]
      simp
theorem den_nil {α : Type} {l : List α} {A1 : Option A} {k : Bool → Prop} (h : A1 = some r) (ht : A1 = some r → l = [] → k true) (hf : A1 = some r → k false) : NilP l k := ⟨fun hl => ht h hl, hf h⟩

theorem iterN_mono {α A : Type} {step : α → Option (α ⊕ A)} {r : A} : ∀ {n m : Nat} {a : α}, n ≤ m → iterN step n a = some r → iterN step m a = some r
  | 0, _, _, _, h => nomatch h
  | n + 1, 0, _, hle, _ => absurd hle (by omega)
  | n + 1, m + 1, a, hle, h => by
    rw [iterN_succ] at h ⊢
    cases hx : step a with
    | none => rw [hx] at h; cases h
    | some x =>
      rw [hx] at h
      cases x with
      | inl a' => exact iterN_mono (by omega) h
      | inr r' => exact h
/-- It comes to this end. -/
def Ends {α A : Type} (step : α → Option (α ⊕ A)) (r : A) (a : α) : Prop := ∃ n, iterN step n a = some r
noncomputable def rounds {α A : Type} (step : α → Option (α ⊕ A)) (r : A) (a : α) : Nat := by
  classical exact if h : Ends step r a then Classical.choose (min_of h) else 0
theorem Ends.next {α A : Type} {step : α → Option (α ⊕ A)} {r : A} {a a' : α} (h : Ends step r a) (hs : step a = some (.inl a')) : Ends step r a' ∧ rounds step r a' < rounds step r a := by
  have h1 : iterN step (rounds step r a) a = some r := by
    unfold rounds
    rw [dif_pos h]
    exact (Classical.choose_spec (min_of h)).1
  generalize rounds step r a = n at h1
  cases n with
  | zero => cases h1
  | succ n =>
    rw [iterN_succ, hs] at h1
    have h2 : Ends step r a' := ⟨n, h1⟩
    refine ⟨h2, ?_⟩
    unfold rounds
    rw [dif_pos h2]
    exact Nat.lt_succ_of_le ((Classical.choose_spec (min_of h2)).2 n h1)
theorem Ends.last {α A : Type} {step : α → Option (α ⊕ A)} {r : A} {a : α} (h : Ends step r a) : ∃ x, step a = some x ∧ ∀ r', x = .inr r' → r' = r := by
  obtain ⟨n, h⟩ := h
  cases n with
  | zero => cases h
  | succ n =>
    rw [iterN_succ] at h
    cases hx : step a with
    | none => rw [hx] at h; cases h
    | some x =>
      rw [hx] at h
      exact ⟨x, rfl, fun r' e => by subst e; exact Option.some.inj h⟩
theorem den_loop {α : Type} {body : St → (St → Prop) → Prop} {a0 : α} (step : α → Option (α ⊕ A)) (h : iter step a0 = some r) (S : α → St) (hs : ∀ j, j = a0 → leSt s (S j))
    (hb : ∀ (E : α → Prop) (m : α → Nat) (a : α) (x : α ⊕ A), step a = some x → (∀ a', x = .inl a' → E a' ∧ m a' < m a) → (∀ r', x = .inr r' → r' = r) → body (S a) (fun s' => ∃ a', E a' ∧ m a' < m a ∧ leSt s' (S a'))) : LoopP body s := by
  refine .mk S (Ends step r) (rounds step r) a0 ⟨_, h⟩ (hs _ rfl) fun a ha => ?_
  obtain ⟨x, h1, h2⟩ := ha.last
  exact hb _ _ a x h1 (fun a' e => by subst e; exact ha.next h1) h2
theorem den_back {α : Type} {E : α → Prop} {m : α → Nat} {S : α → St} {a a' : α} {x : α ⊕ A} (h : some (Sum.inl a') = some x) (hb : ∀ a', x = .inl a' → E a' ∧ m a' < m a) (hl : ∀ j, j = a' → leSt s (S j)) :
    ∃ a', E a' ∧ m a' < m a ∧ leSt s (S a') := ⟨a', (hb a' (Option.some.inj h).symm).1, (hb a' (Option.some.inj h).symm).2, hl _ rfl⟩
theorem den_join {J : Type} {S : J → St} {K : J → Option A} {j : J} (h : K j = some r) (hl : ∀ j', j' = j → leSt s (S j')) : ∃ a, K a = some r ∧ leSt s (S a) := ⟨j, h, hl _ rfl⟩
theorem den_cut {J : Type} {run : (St → Prop) → Prop} {k : St → Prop} (S : J → St) (K : J → Option A) (h : run (fun s' => ∃ a, K a = some r ∧ leSt s' (S a))) (hk : ∀ j, K j = some r → k (S j)) : SeqP run k := .cut S (fun j => K j = some r) h hk
end

/-! ### Values told otherwise -/
theorem CEq.of_lep {x y : V} (h : LeP [] x y) (hy : isData y = true) : CEq x y := fun _ _ _ hv => (h.ra (β := fun _ => none) (.d _ _ hv)).data hy
theorem CEqL.of_lepl {xs ys : List V} (h : LePl [] xs ys) (hy : isDatal ys = true) : CEqL xs ys := by
  induction xs generalizing ys with
  | nil => cases h; exact ⟨rfl, fun j x y h => by simp at h⟩
  | cons a l ih =>
    cases h with
    | cons _ b _ ys' h1 h2 =>
      simp only [isDatal, Bool.and_eq_true] at hy
      have := ih h2 hy.2
      refine ⟨by simp [this.1], fun j x y hx hy' => ?_⟩
      cases j with
      | zero => simp at hx hy'; subst hx; subst hy'; exact CEq.of_lep h1 hy.1
      | succ j => exact this.2 j x y (by simpa using hx) (by simpa using hy')
theorem VEq.of_lepl {a b : V} (h : LePl [] (cells a) (cells b)) (hb : isDatal (cells b) = true) : VEq a b := CEqL.of_lepl h hb
inductive Vls {α : Type} (f : α → V) : List V → List α → Prop
  | nil : Vls f [] []
  | cons (v : V) (a : α) (vs : List V) (l : List α) (h : VEq v (f a)) (t : Vls f vs l) : Vls f (v :: vs) (a :: l)
theorem Vls.spec {α : Type} {f : α → V} {vs : List V} {l : List α} (h : Vls f vs l) : vs.length = l.length ∧ ∀ (i : Nat) (e : V) (p : α), vs[i]? = some e → l[i]? = some p → VEq e (f p) := by
  induction h with
  | nil => exact ⟨rfl, fun i e p h => by simp at h⟩
  | cons v a vs l h _ ih =>
    refine ⟨by simp [ih.1], fun i e p he hp => ?_⟩
    cases i with
    | zero => simp at he hp; subst he; subst hp; exact h
    | succ i => exact ih.2 i e p (by simpa using he) (by simpa using hp)
theorem LeP.sls {o : Own} {sz : Nat} {α : Type} {f : α → V} {vs : List V} {l : List α} (h : Vls f vs l) : LeP o (.sls sz vs) (.sl sz f l) := .sl' sz _ vs rfl f l h.spec.1 h.spec.2
theorem News.sls {o : Own} {sz : Nat} {α : Type} {f : α → V} {vs : List V} {l : List α} (h : Vls f vs l) : News o sz f l (.sls sz vs) := ⟨vs, rfl, h.spec.1, h.spec.2⟩

theorem den_build {A : Type} {r : A} {sz : Nat} {vs : List V} {kd : Prop} {k : (α : Type) → (α → V) → List α → Prop} {α : Type} (K : List α → Option A) (f : α → V) (l : List α) (hv : Vls f vs l) (h : K l = some r) (hk : ∀ l', l' = l → K l' = some r → k α f l') : BuildP sz vs kd k :=
  .own f l hv.spec.1 hv.spec.2 fun l' e => hk l' e (by rw [e]; exact h)

/-! ### Data as values -/
def e_i8 (n : Int) : V := .int .i8 (.v n)
def e_i16 (n : Int) : V := .int .i16 (.v n)
def e_i32 (n : Int) : V := .int .i32 (.v n)
def e_i64 (n : Int) : V := .int .i64 (.v n)
def e_u8 (n : Int) : V := .int .u8 (.v n)
def e_u16 (n : Int) : V := .int .u16 (.v n)
def e_u32 (n : Int) : V := .int .u32 (.v n)
def e_u64 (n : Int) : V := .int .u64 (.v n)
def e_bool (b : Bool) : V := .bool (.v b)
def e_str (s : List UInt8) : V := .str (.v s)
def e_sl {α : Type} (sz : Nat) (f : α → V) (l : List α) : V := .sl sz f l
structure Arr1 (α : Type) where
  a0 : α
structure Arr2 (α : Type) where
  a0 : α
  a1 : α
structure Arr3 (α : Type) where
  a0 : α
  a1 : α
  a2 : α
structure Arr4 (α : Type) where
  a0 : α
  a1 : α
  a2 : α
  a3 : α
def e_arr1 {α : Type} (f : α → V) (x : Arr1 α) : V := .agg (cells (f x.a0))
def e_arr2 {α : Type} (f : α → V) (x : Arr2 α) : V := .agg (cells (f x.a0) ++ cells (f x.a1))
def e_arr3 {α : Type} (f : α → V) (x : Arr3 α) : V := .agg (cells (f x.a0) ++ (cells (f x.a1) ++ cells (f x.a2)))
def e_arr4 {α : Type} (f : α → V) (x : Arr4 α) : V := .agg (cells (f x.a0) ++ (cells (f x.a1) ++ (cells (f x.a2) ++ cells (f x.a3))))
/-- Greater arrays: by their places. -/
def cellsN {α : Type} (f : α → V) (x : Nat → α) : Nat → Nat → List V
  | _, 0 => []
  | i, n + 1 => cells (f (x i)) ++ cellsN f x (i + 1) n
def e_arrn {α : Type} (n : Nat) (f : α → V) (x : Nat → α) : V := .agg (cellsN f x 0 n)
def arrn {α : Type} [Inhabited α] (l : List α) (i : Nat) : α := l.getD i default
end Go.Vg
