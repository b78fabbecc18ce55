/- What becomes of own things: substitution in values, the state after an operation. -/
import Derived.Test.YtnapnedfhimikaaDoorVgE
set_option maxRecDepth 4000
set_option linter.all false
set_option linter.unusedVariables false
set_option linter.unusedSimpArgs false
namespace Go.Vg
open Go

/-- What stands in the place of own things. -/
structure Sub : Type 1 where
  osl : Nat → V
  ptr : Nat → Nat → V
  eptr : Nat → IE → Nat → V

mutual
def V.sub (σ : Sub) : V → V
  | .osl id => σ.osl id
  | .ptr id off => σ.ptr id off
  | .eptr id i off => σ.eptr id i off
  | .view id lo n => match σ.osl id with
    | .osl id' => .view id' lo n
    | _ => .junk
  | .fn f xs ys => .fn f (V.subl σ xs) (V.subl σ ys)
  | .agg cs => .agg (V.subl σ cs)
  | .tup cs => .tup (V.subl σ cs)
  | .opt t b v => .opt t b (V.sub σ v)
  | x => x
def V.subl (σ : Sub) : List V → List V
  | [] => []
  | x :: r => V.sub σ x :: V.subl σ r
end
theorem V.subl_eq (σ : Sub) (l : List V) : V.subl σ l = l.map (V.sub σ) := by
  induction l with
  | nil => simp [V.subl]
  | cons a r ih => simp [V.subl, ih]

def Ent.sub (σ : Sub) : Ent → Ent
  | .var cs => .var (V.subl σ cs)
  | e => e
def subE (σ : Sub) : Env → Env
  | [] => []
  | (k, x) :: r => (k, V.sub σ x) :: subE σ r
def subO (σ : Sub) : Own → Own
  | [] => []
  | (k, x) :: r => (k, Ent.sub σ x) :: subO σ r
theorem look_subE (σ : Sub) (e : Env) (t : Nat) : look (subE σ e) t = V.sub σ (look e t) := by
  induction e with
  | nil => simp [subE, look, V.sub]
  | cons a r ih =>
    obtain ⟨k, x⟩ := a
    simp only [subE, look, ih]
    cases (eqN k t) <;> simp
theorem olook_subO (σ : Sub) (o : Own) (t : Nat) : olook (subO σ o) t = (olook o t).map (Ent.sub σ) := by
  induction o with
  | nil => simp [subO, olook]
  | cons a r ih =>
    obtain ⟨k, x⟩ := a
    simp only [subO, olook, ih]
    cases (eqN k t) <;> simp

theorem RA.sub {w w' : World} {F F' : Nat → Prop} {β β' : Bt} {o o' : Own} {σ : Sub} (hd : ∀ v x, RD w F v x → RD w' F' v x)
    (h1 : ∀ v id, RA w F β o v (.osl id) → RA w' F' β' o' v (σ.osl id)) (h2 : ∀ v id off, RA w F β o v (.ptr id off) → RA w' F' β' o' v (σ.ptr id off))
    (h3 : ∀ v id i off, RA w F β o v (.eptr id i off) → RA w' F' β' o' v (σ.eptr id i off)) (h4 : ∀ v id id' lo n, σ.osl id = .osl id' → RA w F β o v (.view id lo n) → RA w' F' β' o' v (.view id' lo n)) {v : Value} {x : V} (h : RA w F β o v x) : RA w' F' β' o' v (V.sub σ x) := by
  have hdd : ∀ v x, RD w F v x → RA w' F' β' o' v (V.sub σ x) := by
    intro v x h
    induction h with
    | int k e n h hk => simp only [V.sub]; exact .d _ _ (.int k e n h hk)
    | bool e b h => simp only [V.sub]; exact .d _ _ (.bool e b h)
    | str e s h hl => simp only [V.sub]; exact .d _ _ (.str e s h hl)
    | nilsl x sz hx =>
      have : V.sub σ x = x := by cases x <;> simp [V.elems] at hx <;> simp [V.sub]
      rw [this]; exact .d _ _ (.nilsl x sz hx)
    | slice x sz es hx hnn a c hc hl hs hF hb hsz cv hone hcv hr ih =>
      have : V.sub σ x = x := by cases x <;> simp [V.elems] at hx <;> simp [V.sub]
      rw [this]; exact .d _ _ (hd _ _ (.slice x sz es hx hnn a c hc hl hs hF hb hsz cv hone hcv hr))
    | agg cs xs hl hone h ih =>
      simp only [V.sub, V.subl_eq]
      refine .agg _ _ (by simpa using hl) hone fun i c y hi hy => ?_
      rw [List.getElem?_map, Option.map_eq_some_iff] at hy
      obtain ⟨z, hz, rfl⟩ := hy
      exact ih i c z hi hz
    | tup cs xs hl h ih =>
      simp only [V.sub, V.subl_eq]
      refine .tup _ _ (by simpa using hl) fun i c y hi hy => ?_
      rw [List.getElem?_map, Option.map_eq_some_iff] at hy
      obtain ⟨z, hz, rfl⟩ := hy
      exact ih i c z hi hz
    | nilptr => simp only [V.sub]; exact .d _ _ .nilptr
    | nilfn => simp only [V.sub]; exact .d _ _ .nilfn
    | fn f => simp only [V.sub, V.subl]; exact .d _ _ (.fn f)
    | rptr a xs hs hF hb cv hone hcv hr ih => simp only [V.sub]; exact .d _ _ (hd _ _ (.rptr a xs hs hF hb cv hone hcv hr))
    | junk v => simp only [V.sub]; exact .junk _
  induction h with
  | d v x h => exact hdd v x h
  | osl id b hb fx e sz f l c h hc hm hl cur hcur hcap => simp only [V.sub]; exact h1 _ _ (.osl id b hb fx e sz f l c h hc hm hl cur hcur hcap)
  | osl0 id fx e sz f h => simp only [V.sub]; exact h1 _ _ (.osl0 id fx e sz f h)
  | view id b hb fx e sz f l c h hc hm hl cur hcur hcap lo n i m hlo hn him hpos =>
    simp only [V.sub]
    split
    · rename_i id' he; exact h4 _ _ _ _ _ he (.view id b hb fx e sz f l c h hc hm hl cur hcur hcap lo n i m hlo hn him hpos)
    · exact .junk _
  | view0 id fx e sz f l h lo n i hlo hn hi ad c =>
    simp only [V.sub]
    split
    · rename_i id' he; exact h4 _ _ _ _ _ he (.view0 id fx e sz f l h lo n i hlo hn hi ad c)
    · exact .junk _
  | ptr id off b hb cs h => simp only [V.sub]; exact h2 _ _ _ (.ptr id off b hb cs h)
  | eptr id off b hb fx e sz i n f l h hi hn => simp only [V.sub]; exact h3 _ _ _ _ (.eptr id off b hb fx e sz i n f l h hi hn)
  | fn f fs cs xs ys hf hc _ _ ih1 ih2 =>
    simp only [V.sub, V.subl_eq]
    refine .fn _ _ _ _ _ (by simpa using hf) (by simpa using hc) (fun i c y hi hy => ?_) (fun i c y hi hy => ?_)
    · rw [List.getElem?_map, Option.map_eq_some_iff] at hy
      obtain ⟨z, hz, rfl⟩ := hy
      exact ih1 i c z hi hz
    · rw [List.getElem?_map, Option.map_eq_some_iff] at hy
      obtain ⟨z, hz, rfl⟩ := hy
      exact ih2 i c z hi hz
  | agg cs xs hl hone _ ih =>
    simp only [V.sub, V.subl_eq]
    refine .agg _ _ (by simpa using hl) hone fun i c y hi hy => ?_
    rw [List.getElem?_map, Option.map_eq_some_iff] at hy
    obtain ⟨z, hz, rfl⟩ := hy
    exact ih i c z hi hz
  | tup cs xs hl _ ih =>
    simp only [V.sub, V.subl_eq]
    refine .tup _ _ (by simpa using hl) fun i c y hi hy => ?_
    rw [List.getElem?_map, Option.map_eq_some_iff] at hy
    obtain ⟨z, hz, rfl⟩ := hy
    exact ih i c z hi hz
  | junk v => simp only [V.sub]; exact .junk _

/-- Own things as they are. -/
def sid : Sub := ⟨.osl, .ptr, .eptr⟩
mutual
theorem V.sub_id : (x : V) → V.sub sid x = x
  | .int _ _ => by simp [V.sub] | .bool _ => by simp [V.sub] | .str _ => by simp [V.sub] | .sl _ _ _ => by simp [V.sub] | .sls _ _ => by simp [V.sub]
  | .nilsl => by simp [V.sub] | .agg cs => by simp [V.sub, V.subl_id cs] | .tup cs => by simp [V.sub, V.subl_id cs] | .osl _ => by simp [V.sub, sid] | .view _ _ _ => by simp [V.sub, sid]
  | .ptr _ _ => by simp [V.sub, sid] | .eptr _ _ _ => by simp [V.sub, sid] | .rptr _ => by simp [V.sub] | .fn _ xs ys => by simp [V.sub, V.subl_id xs, V.subl_id ys]
  | .nilptr => by simp [V.sub] | .nilfn => by simp [V.sub] | .mp _ => by simp [V.sub] | .opt _ _ v => by simp [V.sub, V.sub_id v] | .nb _ => by simp [V.sub] | .junk => by simp [V.sub]
theorem V.subl_id : (l : List V) → V.subl sid l = l
  | [] => by simp [V.subl]
  | x :: r => by simp [V.subl, V.sub_id x, V.subl_id r]
end

/-- How own things stand, behind a turn, to what they were: 'id' is 'id'' now. -/
structure Same (w : World) (β : Bt) (o : Own) (w' : World) (β' : Bt) (o' : Own) (id id' : Nat) : Prop where
  bt : β' id' = β id
  var : ∀ cs, olook o id = some (.var cs) → ∃ cs', olook o' id' = some (.var cs')
  arr : ∀ fx e sz (α : Type) (f : α → V) (l : List α), olook o id = some (.arr fx e sz f l) → ∃ (fx' : Bool) (α' : Type) (f' : α' → V) (l' : List α'), olook o' id' = some (.arr fx' e sz f' l') ∧ l'.length = l.length ∧
    ∀ b cur, β id = some b → w.heap[b]? = some (.cells cur e (0, 0)) → ∃ cur', w'.heap[b]? = some (.cells cur' e (0, 0)) ∧ cur'.size = cur.size

theorem Same.osl {w w' : World} {F F' : Nat → Prop} {β β' : Bt} {o o' : Own} {id id' : Nat} (h : Same w β o w' β' o' id id') {v : Value} (hv : RA w F β o v (.osl id)) : RA w' F' β' o' v (.osl id') := by
  obtain ⟨fx, e, sz, α, f, l, h1, h2⟩ := RA.of_osl hv
  obtain ⟨fx', α', f', l', g1, g2, g3⟩ := h.arr _ _ _ _ _ _ h1
  rcases h2 with ⟨rfl, rfl⟩ | ⟨b, c, cur, k1, rfl, k2, k3, k4, k5, k6⟩
  · have : l' = [] := List.eq_nil_of_length_eq_zero (by simpa using g2)
    subst this
    exact .osl0 id' fx' e sz f' g1
  · obtain ⟨cur', m1, m2⟩ := g3 b cur k1 k5
    rw [← g2]
    exact .osl id' b (h.bt.trans k1) fx' e sz f' l' c g1 (by omega) k3 (by omega) cur' m1 (by omega)
theorem Same.view {w w' : World} {F F' : Nat → Prop} {β β' : Bt} {o o' : Own} {id id' : Nat} {lo n : IE} (h : Same w β o w' β' o' id id') {v : Value} (hv : RA w F β o v (.view id lo n)) : RA w' F' β' o' v (.view id' lo n) := by
  obtain ⟨fx, e, sz, α, f, l, i, m, h1, h2, h3, h4, h5⟩ := RA.of_view hv
  obtain ⟨fx', α', f', l', g1, g2, g3⟩ := h.arr _ _ _ _ _ _ h1
  rcases h5 with ⟨rfl, ad, c, rfl⟩ | ⟨b, c, cur, hpos, k1, rfl, k2, k3, k4, k5, k6⟩
  · exact .view0 id' fx' e sz f' l' g1 lo n i h2 h3 (by omega) ad c
  · obtain ⟨cur', m1, m2⟩ := g3 b cur k1 k5
    exact .view id' b (h.bt.trans k1) fx' e sz f' l' c g1 (by omega) k3 (by omega) cur' m1 (by omega) lo n i m h2 h3 (by omega) hpos
theorem Same.ptr {w w' : World} {F F' : Nat → Prop} {β β' : Bt} {o o' : Own} {id id' off : Nat} (h : Same w β o w' β' o' id id') {v : Value} (hv : RA w F β o v (.ptr id off)) : RA w' F' β' o' v (.ptr id' off) := by
  obtain ⟨b, cs, h1, h2, rfl⟩ := RA.of_ptr hv
  obtain ⟨cs', g⟩ := h.var cs h2
  exact .ptr id' off b (h.bt.trans h1) cs' g
theorem Same.eptr {w w' : World} {F F' : Nat → Prop} {β β' : Bt} {o o' : Own} {id id' off : Nat} {i : IE} (h : Same w β o w' β' o' id id') {v : Value} (hv : RA w F β o v (.eptr id i off)) : RA w' F' β' o' v (.eptr id' i off) := by
  obtain ⟨b, fx, e, sz, n, α, f, l, h1, h2, h3, h4, rfl⟩ := RA.of_eptr hv
  obtain ⟨fx', α', f', l', g1, g2, g3⟩ := h.arr _ _ _ _ _ _ h2
  exact .eptr id' off b (h.bt.trans h1) fx' e sz i n f' l' g1 h3 (by omega)

/-- Where all own things that a value leans on stay. -/
theorem RA.stay {w w' : World} {F F' : Nat → Prop} {β β' : Bt} {o o' : Own} (hd : ∀ v x, RD w F v x → RD w' F' v x) (h : ∀ id ent, olook o id = some ent → Same w β o w' β' o' id id) {v : Value} {x : V} (hx : RA w F β o v x) : RA w' F' β' o' v x := by
  have := RA.sub (β' := β') (o' := o') (σ := sid) hd (fun v id hv => (by
    obtain ⟨fx, e, sz, α, f, l, h1, _⟩ := RA.of_osl hv
    exact (h id _ h1).osl hv)) (fun v id off hv => (by
    obtain ⟨b, cs, _, h1, _⟩ := RA.of_ptr hv
    exact (h id _ h1).ptr hv)) (fun v id i off hv => (by
    obtain ⟨b, fx, e, sz, n, α, f, l, _, h1, _⟩ := RA.of_eptr hv
    exact (h id _ h1).eptr hv)) (fun v id id' lo n he hv => (by
    simp only [sid, V.osl.injEq] at he
    subst he
    obtain ⟨fx, e, sz, α, f, l, i, m, h1, _⟩ := RA.of_view hv
    exact (h id _ h1).view hv)) hx
  rwa [V.sub_id] at this

/-- All refs to one own thing are struck. -/
def spurge (X : Nat) : Sub := ⟨fun id => bif (eqN id X) then .junk else .osl id, fun id off => bif (eqN id X) then .junk else .ptr id off, fun id i off => bif (eqN id X) then .junk else .eptr id i off⟩
theorem RA.purge {w w' : World} {F F' : Nat → Prop} {β β' : Bt} {o o' : Own} {X : Nat} (hd : ∀ v x, RD w F v x → RD w' F' v x) (h : ∀ id ent, id ≠ X → olook o id = some ent → Same w β o w' β' o' id id) {v : Value} {x : V} (hx : RA w F β o v x) :
    RA w' F' β' o' v (V.sub (spurge X) x) := by
  refine RA.sub hd (fun v id hv => ?_) (fun v id off hv => ?_) (fun v id i off hv => ?_) (fun v id id' lo n he hv => ?_) hx
  case refine_4 =>
    simp only [spurge] at he
    cases hb : (eqN id X) with
    | true => rw [hb] at he; cases he
    | false =>
      rw [hb] at he
      simp only [cond_false, V.osl.injEq] at he
      subst he
      have hne : id ≠ X := fun e => by subst e; simp at hb
      obtain ⟨fx, e, sz, α, f, l, i, m, h1, _⟩ := RA.of_view hv
      exact (h id _ hne h1).view hv
  all_goals
    simp only [spurge]
    cases hb : (eqN id X)
    case true => exact .junk _
    simp only [cond_false]
    have hne : id ≠ X := fun e => by subst e; simp at hb
  · obtain ⟨fx, e, sz, α, f, l, h1, _⟩ := RA.of_osl hv
    exact (h id _ hne h1).osl hv
  · obtain ⟨b, cs, _, h1, _⟩ := RA.of_ptr hv
    exact (h id _ hne h1).ptr hv
  · obtain ⟨b, fx, e, sz, n, α, f, l, _, h1, _⟩ := RA.of_eptr hv
    exact (h id _ hne h1).eptr hv

-- Data: nothing of the call's own.
mutual
def isData : V → Bool
  | .osl _ => false
  | .view _ _ _ => false
  | .ptr _ _ => false
  | .eptr _ _ _ => false
  | .fn _ [] [] => true
  | .fn _ _ _ => false
  | .agg cs => isDatal cs
  | .tup cs => isDatal cs
  | .mp _ => false
  | .opt _ _ _ => false
  | .nb _ => false
  | _ => true
def isDatal : List V → Bool
  | [] => true
  | x :: r => isData x && isDatal r
end
theorem isDatal_iff (l : List V) : isDatal l = true ↔ ∀ x, x ∈ l → isData x = true := by
  induction l with
  | nil => simp [isDatal]
  | cons a r ih => simp [isDatal, ih]
theorem RA.data {w : World} {F : Nat → Prop} {β : Bt} {o : Own} {v : Value} {x : V} (h : RA w F β o v x) (hx : isData x = true) : RD w F v x := by
  induction h with
  | d v x h => exact h
  | osl => simp [isData] at hx
  | osl0 => simp [isData] at hx
  | view => simp [isData] at hx
  | view0 => simp [isData] at hx
  | ptr => simp [isData] at hx
  | eptr => simp [isData] at hx
  | fn f fs cs xs ys hf hc _ _ ih1 ih2 =>
    cases xs with
    | nil =>
      cases ys with
      | nil =>
        have h1 : fs = #[] := by simpa using hf
        have h2 : cs = #[] := by simpa using hc
        subst h1; subst h2; exact .fn f
      | cons => simp [isData] at hx
    | cons => cases ys <;> simp [isData] at hx
  | agg cs xs hl hone _ ih =>
    simp only [isData, isDatal_iff] at hx
    exact .agg _ _ hl hone fun i c y hi hy => ih i c y hi hy (hx y (List.mem_of_getElem? hy))
  | tup cs xs hl _ ih =>
    simp only [isData, isDatal_iff] at hx
    exact .tup _ _ hl fun i c y hi hy => ih i c y hi hy (hx y (List.mem_of_getElem? hy))
  | junk v => exact .junk v

end Go.Vg
