/- The own layer, part A1: soundness of the conditions of code. -/
import Derived.Orders
import Derived.Laws.AppendOwn
import Derived.Below
import Derived.Tactics
import GoSem.Claims
import Derived.Laws.StructEq
import Derived.Laws.Tables
import Derived.Laws.Entries
import Derived.Laws.Cells
import Derived.Laws.Strings
set_option maxRecDepth 4000
set_option linter.all false
set_option linter.unusedVariables false
set_option linter.unusedSimpArgs false
/- The values of the layer: expressions, values, types' table; what they mean; how they lie in memory. -/
namespace Go.Vg
open Go

def eqN (a b : Nat) : Bool := decide (a = b)
def ltN (a b : Nat) : Bool := decide (a < b)
def leN (a b : Nat) : Bool := decide (a ≤ b)
theorem eqN_true {a b : Nat} (h : eqN a b = true) : a = b := of_decide_eq_true h
@[simp] theorem eqN_self (a : Nat) : eqN a a = true := by simp [eqN]
@[simp] theorem ltN_iff {a b : Nat} : ltN a b = true ↔ a < b := by simp [ltN]
@[simp] theorem leN_iff {a b : Nat} : leN a b = true ↔ a ≤ b := by simp [leN]
theorem leN_true {a b : Nat} (h : leN a b = true) : a ≤ b := of_decide_eq_true h

inductive SE : Type
  | lit (l : List UInt8) | v (l : List UInt8) | cat (a b : SE)
def SE.den : SE → List UInt8
  | .lit l => l | .v l => l | .cat a b => a.den ++ b.den

mutual
inductive IE : Type 1
  | lit (n : Int) | v (n : Int) | nat (n : Nat) | byte (b : UInt8)
  | len {α : Type} (l : List α)
  | slen (s : SE)
  | ar (o : BinOp) (k : IntKind) (a b : IE)
  | sh (o : BinOp) (k : IntKind) (a b : IE)
  | wrap (k : IntKind) (a : IE)
  | ite (c : BE) (a b : IE)
  | mn (a b : IE) | mx (a b : IE)
inductive BE : Type 1
  | lit (b : Bool) | v (b : Bool)
  | cmp (o : BinOp) (a b : IE)
  | not (a : BE) | ite (c a b : BE) | and (a b : BE)
  | seq (a b : SE) | beq (a b : BE)
end

def arD (o : BinOp) (k : IntKind) (x y : Int) : Int :=
  match o with
  | .add => k.wrap (x + y)
  | .sub => k.wrap (x - y)
  | .mul => k.wrap (x * y)
  | .quo => k.wrap (x.tdiv y)
  | .rem => x.tmod y
  | .and => k.wrap (BitVec.ofInt k.bits x &&& BitVec.ofInt k.bits y).toNat
  | .or => k.wrap (BitVec.ofInt k.bits x ||| BitVec.ofInt k.bits y).toNat
  | .xor => k.wrap (BitVec.ofInt k.bits x ^^^ BitVec.ofInt k.bits y).toNat
  | .andNot => k.wrap (BitVec.ofInt k.bits x &&& ~~~BitVec.ofInt k.bits y).toNat
  | _ => 0
def shD (o : BinOp) (k : IntKind) (x y : Int) : Int :=
  match o with
  | .shl => k.wrap (x * 2 ^ (min y.toNat k.bits))
  | .shr => x.fdiv (2 ^ (min y.toNat k.bits))
  | _ => 0
def cmpD (o : BinOp) (x y : Int) : Bool :=
  match o with
  | .eql => x == y
  | .neq => x != y
  | .lss => decide (x < y)
  | .leq => decide (x ≤ y)
  | .gtr => decide (x > y)
  | .geq => decide (x ≥ y)
  | _ => false

mutual
def IE.den : IE → Int
  | .lit n => n | .v n => n | .nat n => n | .byte b => b.toNat
  | .len l => l.length
  | .slen s => s.den.length
  | .ar o k a b => arD o k a.den b.den
  | .sh o k a b => shD o k a.den b.den
  | .wrap k a => k.wrap a.den
  | .ite c a b => if c.den = true then a.den else b.den
  | .mn a b => if b.den < a.den then b.den else a.den
  | .mx a b => if b.den > a.den then b.den else a.den
def BE.den : BE → Bool
  | .lit b => b | .v b => b
  | .cmp o a b => cmpD o a.den b.den
  | .not a => !a.den
  | .ite c a b => if c.den = true then a.den else b.den
  | .and a b => a.den && b.den
  | .seq a b => a.den == b.den
  | .beq a b => a.den == b.den
end

inductive V : Type 1
  | int (k : IntKind) (e : IE)
  | bool (b : BE)
  | str (s : SE)
  | sl (sz : Nat) {α : Type} (f : α → V) (l : List α)
  | sls (sz : Nat) (vs : List V)
  | nilsl
  | agg (cs : List V)
  | tup (vs : List V)
  | osl (id : Nat)
  | view (id : Nat) (lo n : IE)
  | ptr (id off : Nat)
  | eptr (id : Nat) (i : IE) (off : Nat)
  | rptr (cells : List V)
  | fn (f : FuncId) (first captured : List V)
  | nilptr | nilfn
  | mp (id : Nat)
  | opt (t : Nat) (b : Bool) (v : V)
  | nb (b : Bool)
  | junk

/-- A value's cells. -/
def cells : V → List V
  | .agg cs => cs
  | v => [v]

/-- A slice's elements: how many cells one has, and which they are. -/
def V.elems : V → Option (Nat × List V)
  | .sl sz f l => some (sz, l.map f)
  | .sls sz vs => some (sz, vs)
  | .nilsl => some (0, [])
  | _ => none

inductive Ent : Type 1
  | var (cells : List V)
  | arr (fx : Bool) (e : TypeId) (sz : Nat) {α : Type} (f : α → V) (l : List α)
  /-- A map with whole numbers as keys, in the order in which they came. -/
  | map {α : Type} (f : α → V) (l : List (Int × α))

abbrev Env := List (Nat × V)
abbrev Own := List (Nat × Ent)
structure St : Type 1 where
  e : Env
  o : Own
  /-- What was turned since the mark. -/
  t : List Nat

def look : Env → Nat → V
  | [], _ => .junk
  | (k, v) :: r, n => bif (eqN k n) then v else look r n
def olook : Own → Nat → Option Ent
  | [], _ => none
  | (k, v) :: r, n => bif (eqN k n) then some v else olook r n

/-- No slice is longer. -/
def LIM : Nat := 9223372036854775807

mutual
/-- What is known of a value by itself: its numbers are of their kinds. -/
def V.wf : V → Prop
  | .int k e => k.has e.den
  | .sl _ f l => l.length ≤ LIM ∧ ∀ p, p ∈ l → V.wf (f p)
  | .sls _ vs => V.wfl vs
  | .agg cs => V.wfl cs
  | .tup vs => V.wfl vs
  | .rptr cs => V.wfl cs
  | _ => True
def V.wfl : List V → Prop
  | [] => True
  | x :: r => V.wf x ∧ V.wfl r
end

theorem V.wfl_iff (l : List V) : V.wfl l ↔ ∀ x, x ∈ l → V.wf x := by
  induction l with
  | nil => simp [V.wfl]
  | cons a r ih => simp [V.wfl, ih]

/-! ### Memory -/

/-- Data that nobody writes: 'F': the blocks that it has no part in. -/
inductive RD (w : World) (F : Nat → Prop) : Value → V → Prop
  | int (k : IntKind) (e : IE) (n : Int) (h : e.den = n) (hk : k.has n) : RD w F (.int k n) (.int k e)
  | bool (e : BE) (b : Bool) (h : e.den = b) : RD w F (.bool b) (.bool e)
  | str (e : SE) (s : ByteArray) (h : e.den = s.data.toList) (hl : e.den.length ≤ LIM) : RD w F (.string s) (.str e)
  | nilsl (x : V) (sz : Nat) (hx : x.elems = some (sz, [])) : RD w F (.slice none 0 0) x
  | slice (x : V) (sz : Nat) (es : List V) (hx : x.elems = some (sz, es)) (hnn : x ≠ .nilsl) (a : Addr) (c : Nat) (hc : es.length ≤ c) (hl : es.length ≤ LIM) (hs : es ≠ [] → a.spot = none)
      (hF : es ≠ [] → ¬ F a.block) (hb : es ≠ [] → a.block < w.heap.size)
      (hsz : ∀ (i : Nat) (e : V), es[i]? = some e → (cells e).length = sz)
      (cv : Nat → Nat → Value)
      (hone : ∀ (i : Nat) (e : V), es[i]? = some e → ∀ (j : Nat) (y : V), (cells e)[j]? = some y → (cv i j).oneCell' = true)
      (hcv : ∀ (i : Nat) (e : V), es[i]? = some e → ∀ (j : Nat) (y : V), (cells e)[j]? = some y → w.cell? ⟨a.block, a.off + i * sz + j, none⟩ = some (cv i j))
      (hr : ∀ (i : Nat) (e : V), es[i]? = some e → ∀ (j : Nat) (y : V), (cells e)[j]? = some y → RD w F (cv i j) y) : RD w F (.slice (some a) es.length c) x
  | agg (cs : Array Value) (xs : List V) (hl : cs.size = xs.length) (hone : ∀ c, c ∈ cs → c.oneCell' = true)
      (h : ∀ (i : Nat) (c : Value) (x : V), cs[i]? = some c → xs[i]? = some x → RD w F c x) : RD w F (.agg cs) (.agg xs)
  | tup (cs : Array Value) (xs : List V) (hl : cs.size = xs.length)
      (h : ∀ (i : Nat) (c : Value) (x : V), cs[i]? = some c → xs[i]? = some x → RD w F c x) : RD w F (.tuple cs) (.tup xs)
  | nilptr : RD w F (.pointer none) .nilptr
  | nilfn : RD w F .nilFunc .nilfn
  | fn (f : FuncId) (fs cs : Array Value) (xs ys : List V) (hf : fs.size = xs.length) (hc : cs.size = ys.length)
      (h1 : ∀ (i : Nat) (c : Value) (x : V), fs[i]? = some c → xs[i]? = some x → RD w F c x)
      (h2 : ∀ (i : Nat) (c : Value) (x : V), cs[i]? = some c → ys[i]? = some x → RD w F c x) : RD w F (.func (.func f) fs cs) (.fn f xs ys)
  | rptr (a : Addr) (xs : List V) (hs : a.spot = none) (hF : ¬ F a.block) (hb : a.block < w.heap.size) (cv : Nat → Value)
      (hone : ∀ (j : Nat) (y : V), xs[j]? = some y → (cv j).oneCell' = true)
      (hcv : ∀ (j : Nat) (y : V), xs[j]? = some y → w.cell? ⟨a.block, a.off + j, none⟩ = some (cv j))
      (hr : ∀ (j : Nat) (y : V), xs[j]? = some y → RD w F (cv j) y) : RD w F (.pointer (some a)) (.rptr xs)
  | junk (v : Value) : RD w F v .junk

/-- Where nothing turned that it has part in, data are what they were. -/
theorem RD.carry {w w' : World} {F F' : Nat → Prop} (h : ∀ b, b < w.heap.size → ¬ F b → w'.heap[b]? = w.heap[b]? ∧ ¬ F' b ∧ b < w'.heap.size) {v : Value} {x : V} (hv : RD w F v x) : RD w' F' v x := by
  induction hv with
  | int k e n h hk => exact .int k e n h hk
  | bool e b h => exact .bool e b h
  | str e s h hl => exact .str e s h hl
  | nilsl x sz hx => exact .nilsl x sz hx
  | slice x sz es hx hnn a c hc hl hs hF hb hsz cv hone hcv hr ih =>
    refine .slice x sz es hx hnn a c hc hl hs (fun hne => (h _ (hb hne) (hF hne)).2.1) (fun hne => (h _ (hb hne) (hF hne)).2.2) hsz cv hone (fun i e hi j y hj => ?_) ih
    have hne : es ≠ [] := by intro he; simp [he] at hi
    rw [← hcv i e hi j y hj]
    simp only [World.cell?]
    rw [(h _ (hb hne) (hF hne)).1]
  | agg cs xs hl hone _ ih => exact .agg cs xs hl hone ih
  | tup cs xs hl _ ih => exact .tup cs xs hl ih
  | nilptr => exact .nilptr
  | nilfn => exact .nilfn
  | fn f fs cs xs ys hf hc _ _ ih1 ih2 => exact .fn f fs cs xs ys hf hc ih1 ih2
  | rptr a xs hs hF hb cv hone hcv hr ih =>
    refine .rptr a xs hs (h _ hb hF).2.1 (h _ hb hF).2.2 cv hone (fun j y hj => ?_) ih
    rw [← hcv j y hj]
    simp only [World.cell?]
    rw [(h _ hb hF).1]
  | junk v => exact .junk v

theorem RD.fn0 {w : World} {F : Nat → Prop} (f : FuncId) : RD w F (.func (.func f) #[] #[]) (.fn f [] []) := .fn f #[] #[] [] [] rfl rfl (fun i c x h => by simp at h) (fun i c x h => by simp at h)
theorem mem_of_getElem? {α : Type _} {l : List α} {x : α} (h : x ∈ l) : ∃ i : Nat, l[i]? = some x := List.mem_iff_getElem?.1 h

theorem V.wf_of_cells {x : V} (h : ∀ (j : Nat) (y : V), (cells x)[j]? = some y → V.wf y) : V.wf x := by
  cases x with
  | agg cs =>
    simp only [V.wf, V.wfl_iff]
    intro y hy
    obtain ⟨j, hj⟩ := mem_of_getElem? hy
    exact h j y hj
  | _ => exact h 0 _ (by simp [cells])

theorem V.wf_of_elems {x : V} {sz : Nat} {es : List V} (hx : x.elems = some (sz, es)) (hl : es.length ≤ LIM) (h : ∀ (i : Nat) (e : V), es[i]? = some e → V.wf e) : V.wf x := by
  cases x <;> simp only [V.elems, Option.some.injEq, Prod.mk.injEq, reduceCtorEq] at hx
  case sl sz' α f l =>
    obtain ⟨rfl, rfl⟩ := hx
    simp only [V.wf]
    refine ⟨by simpa using hl, fun p hp => ?_⟩
    obtain ⟨j, hj⟩ := mem_of_getElem? hp
    exact h j (f p) (by simp [hj])
  case sls sz' vs =>
    obtain ⟨rfl, rfl⟩ := hx
    simp only [V.wf, V.wfl_iff]
    intro y hy
    obtain ⟨j, hj⟩ := mem_of_getElem? hy
    exact h j y hj
  case nilsl => simp [V.wf]

theorem RD.wf {w : World} {F : Nat → Prop} {v : Value} {x : V} (h : RD w F v x) : V.wf x := by
  induction h with
  | int k e n h hk => simpa [V.wf, h] using hk
  | bool e b h => simp [V.wf]
  | str e s h hl => simp [V.wf]
  | nilsl x sz hx => exact V.wf_of_elems hx (by simp) (by simp)
  | slice x sz es hx hnn a c hc hl hs hF hb hsz cv hone hcv hr ih => exact V.wf_of_elems hx hl fun i e hi => V.wf_of_cells fun j y hj => ih i e hi j y hj
  | agg cs xs hl hone _ ih =>
    simp only [V.wf, V.wfl_iff]
    intro y hy
    obtain ⟨j, hj⟩ := mem_of_getElem? hy
    have hlt : j < cs.size := by rw [hl]; exact (List.getElem?_eq_some_iff.1 hj).1
    exact ih j _ y (Array.getElem?_eq_getElem hlt) hj
  | tup cs xs hl _ ih =>
    simp only [V.wf, V.wfl_iff]
    intro y hy
    obtain ⟨j, hj⟩ := mem_of_getElem? hy
    have hlt : j < cs.size := by rw [hl]; exact (List.getElem?_eq_some_iff.1 hj).1
    exact ih j _ y (Array.getElem?_eq_getElem hlt) hj
  | nilptr => simp [V.wf]
  | nilfn => simp [V.wf]
  | fn => simp [V.wf]
  | rptr a xs hs hF hb cv hone hcv hr ih =>
    simp only [V.wf, V.wfl_iff]
    intro y hy
    obtain ⟨j, hj⟩ := mem_of_getElem? hy
    exact ih j y hj
  | junk v => simp [V.wf]

/-- In which block an own thing lies (none: an empty list that has none). -/
abbrev Bt := Nat → Option Nat

/-- Values while a function runs. -/
inductive RA (w : World) (F : Nat → Prop) (β : Bt) (o : Own) : Value → V → Prop
  | d (v : Value) (x : V) (h : RD w F v x) : RA w F β o v x
  | osl (id b : Nat) (hb : β id = some b) (fx : Bool) (e : TypeId) (sz : Nat) {α : Type} (f : α → V) (l : List α) (c : Nat) (h : olook o id = some (.arr fx e sz f l)) (hc : l.length ≤ c) (hm : c ≤ maxLen) (hl : l.length ≤ LIM)
      (cur : Array Value) (hcur : w.heap[b]? = some (.cells cur e (0, 0))) (hcap : cur.size = c * sz) : RA w F β o (.slice (some ⟨b, 0, none⟩) l.length c) (.osl id)
  | osl0 (id : Nat) (fx : Bool) (e : TypeId) (sz : Nat) {α : Type} (f : α → V) (h : olook o id = some (.arr fx e sz f [])) : RA w F β o (.slice none 0 0) (.osl id)
  | view (id b : Nat) (hb : β id = some b) (fx : Bool) (e : TypeId) (sz : Nat) {α : Type} (f : α → V) (l : List α) (c : Nat) (h : olook o id = some (.arr fx e sz f l)) (hc : l.length ≤ c) (hm : c ≤ maxLen) (hl : l.length ≤ LIM)
      (cur : Array Value) (hcur : w.heap[b]? = some (.cells cur e (0, 0))) (hcap : cur.size = c * sz) (lo n : IE) (i m : Nat) (hlo : lo.den = (i : Int)) (hn : n.den = (m : Int)) (him : i + m ≤ l.length) (hpos : 0 < m) : RA w F β o (.slice (some ⟨b, i * sz, none⟩) m (c - i)) (.view id lo n)
  | view0 (id : Nat) (fx : Bool) (e : TypeId) (sz : Nat) {α : Type} (f : α → V) (l : List α) (h : olook o id = some (.arr fx e sz f l)) (lo n : IE) (i : Nat) (hlo : lo.den = (i : Int)) (hn : n.den = 0) (hi : i ≤ l.length) (ad : Option Addr) (c : Nat) : RA w F β o (.slice ad 0 c) (.view id lo n)
  | ptr (id off b : Nat) (hb : β id = some b) (cs : List V) (h : olook o id = some (.var cs)) : RA w F β o (.pointer (some ⟨b, off, none⟩)) (.ptr id off)
  | eptr (id off b : Nat) (hb : β id = some b) (fx : Bool) (e : TypeId) (sz : Nat) (i : IE) (n : Nat) {α : Type} (f : α → V) (l : List α) (h : olook o id = some (.arr fx e sz f l)) (hi : i.den = (n : Int)) (hn : n < l.length) :
      RA w F β o (.pointer (some ⟨b, n * sz + off, none⟩)) (.eptr id i off)
  | mp (id b : Nat) (hb : β id = some b) {α : Type} (f : α → V) (l : List (Int × α)) (h : olook o id = some (.map f l)) : RA w F β o (.map (some b)) (.mp id)
  | fn (f : FuncId) (fs cs : Array Value) (xs ys : List V) (hf : fs.size = xs.length) (hc : cs.size = ys.length)
      (h1 : ∀ (i : Nat) (c : Value) (x : V), fs[i]? = some c → xs[i]? = some x → RA w F β o c x)
      (h2 : ∀ (i : Nat) (c : Value) (x : V), cs[i]? = some c → ys[i]? = some x → RA w F β o c x) : RA w F β o (.func (.func f) fs cs) (.fn f xs ys)
  | agg (cs : Array Value) (xs : List V) (hl : cs.size = xs.length) (hone : ∀ c, c ∈ cs → c.oneCell' = true)
      (h : ∀ (i : Nat) (c : Value) (x : V), cs[i]? = some c → xs[i]? = some x → RA w F β o c x) : RA w F β o (.agg cs) (.agg xs)
  | tup (cs : Array Value) (xs : List V) (hl : cs.size = xs.length)
      (h : ∀ (i : Nat) (c : Value) (x : V), cs[i]? = some c → xs[i]? = some x → RA w F β o c x) : RA w F β o (.tuple cs) (.tup xs)
  | junk (v : Value) : RA w F β o v .junk

/-- An own thing is as it is told. -/
def EntOk (w : World) (F : Nat → Prop) (β : Bt) (o : Own) (id : Nat) : Ent → Prop
  | .var cs => ∃ b c t, β id = some b ∧ F b ∧ w.heap[b]? = some (.cells c t (0, 0)) ∧ c.size = cs.length ∧ (∀ v, v ∈ c → v.oneCell' = true) ∧
      ∀ (i : Nat) (v : Value) (x : V), c[i]? = some v → cs[i]? = some x → RA w F β o v x
  | .arr _ e sz f l => (β id = none ∧ l = []) ∨ ∃ b cur, β id = some b ∧ F b ∧ w.heap[b]? = some (.cells cur e (0, 0)) ∧ l.length * sz ≤ cur.size ∧ (∀ v, v ∈ cur → v.oneCell' = true) ∧
      ∀ (i : Nat) p, l[i]? = some p → (cells (f p)).length = sz ∧ ∀ (j : Nat) (y : V), (cells (f p))[j]? = some y → ∃ cv, cur[i * sz + j]? = some cv ∧ RD w F cv y
  | .map f l => ∃ b es clock, β id = some b ∧ F b ∧ w.heap[b]? = some (.map es clock) ∧ es.size = l.length ∧ l.length ≤ LIM ∧
      ∀ (i : Nat) p, l[i]? = some p → ∃ en, es[i]? = some en ∧ en.key = .int .i64 p.1 ∧ RD w F en.val (f p.2)

structure OwnOk (w : World) (F : Nat → Prop) (β : Bt) (o : Own) : Prop where
  ent : ∀ id ent, olook o id = some ent → EntOk w F β o id ent
  inj : ∀ id id' b ent ent', olook o id = some ent → olook o id' = some ent' → β id = some b → β id' = some b → id = id'

/-- Is it left open how many draws there were? (Contracts of the shelf that tell no number want it true, the sort's false.) -/
def Loose : Bool := true
/-- Nothing was put out, and the draws went on. -/
structure OutLe (w w' : World) : Prop where
  out : w'.output = w.output
  drawn : Loose = true ∨ w.drawn ≤ w'.drawn
theorem OutLe.refl (w : World) : OutLe w w := ⟨rfl, .inr (Nat.le_refl _)⟩
theorem OutLe.trans {a b c : World} (h : OutLe b c) (k : OutLe a b) : OutLe a c := ⟨h.out.trans k.out, k.drawn.elim .inl fun k => h.drawn.elim .inl fun h => .inr (Nat.le_trans k h)⟩
/-- What a call may not touch is as it was: blocks that are not 'S' are the same. -/
structure Keep (S : Nat → Prop) (w w' : World) : Prop where
  os : w'.os = w.os
  tape : w'.tape = w.tape
  output : OutLe w w'
  size : w.heap.size ≤ w'.heap.size
  block : ∀ b, b < w.heap.size → ¬ S b → w'.heap[b]? = w.heap[b]?

theorem Keep.refl (S : Nat → Prop) (w : World) : Keep S w w := ⟨rfl, rfl, OutLe.refl w, Nat.le_refl _, fun _ _ _ => rfl⟩
theorem Keep.trans {S S' : Nat → Prop} {a b c : World} (h : Keep S a b) (k : Keep S' b c) (hs : ∀ x, x < a.heap.size → S' x → S x) : Keep S a c :=
  ⟨k.os.trans h.os, k.tape.trans h.tape, k.output.trans h.output, Nat.le_trans h.size k.size, fun x hx hn => (k.block x (Nat.lt_of_lt_of_le hx h.size) (fun hs' => hn (hs x hx hs'))).trans (h.block x hx hn)⟩
theorem Keep.mono {S S' : Nat → Prop} {a b : World} (h : Keep S a b) (hs : ∀ x, S x → S' x) : Keep S' a b :=
  ⟨h.os, h.tape, h.output, h.size, fun x hx hn => h.block x hx (fun q => hn (hs x q))⟩

/-- Data are kept where what they avoid holds all that may be written. -/
theorem RD.keep {S F F' : Nat → Prop} {w w' : World} (k : Keep S w w') (hS : ∀ b, S b → F b) (hF : ∀ b, b < w.heap.size → F' b → F b) {v : Value} {x : V} (h : RD w F v x) : RD w' F' v x :=
  h.carry fun b hb hn => ⟨k.block b hb (fun q => hn (hS b q)), fun q => hn (hF b hb q), Nat.lt_of_lt_of_le hb k.size⟩

end Go.Vg
/- Equality of structs and arrays of plain cells: cell by cell. -/
namespace Go.Vg
open Go

inductive SK
  | i | b | s
/-- Two cells of a kind. -/
def scal2 : SK → Value → Value → Bool
  | .i, .int k _, .int k' _ => decide (k = k')
  | .b, .bool _, .bool _ => true
  | .s, .string _, .string _ => true
  | _, _, _ => false
def vEq : Value → Value → Bool
  | .int _ a, .int _ b => a == b
  | .bool a, .bool b => a == b
  | .string a, .string b => a.toList == b.toList
  | _, _ => false
def vEqs : List Value → List Value → Bool
  | a :: r, b :: q => vEq a b && vEqs r q
  | _, _ => true
def scals : List SK → List Value → List Value → Bool
  | k :: ks, a :: r, b :: q => scal2 k a b && scals ks r q
  | [], [], [] => true
  | _, _, _ => false

theorem vEqs_append : ∀ (a b : List Value) (c d : List Value), a.length = b.length → vEqs (a ++ c) (b ++ d) = (vEqs a b && vEqs c d)
  | [], [], c, d, _ => by simp [vEqs]
  | x :: r, y :: q, c, d, h => by simp [vEqs, vEqs_append r q c d (by simpa using h), Bool.and_assoc]
  | [], _ :: _, _, _, h => by simp at h
  | _ :: _, [], _, _, h => by simp at h
theorem scals_len : ∀ {ks : List SK} {a b : List Value}, scals ks a b = true → a.length = ks.length ∧ b.length = ks.length
  | [], [], [], _ => ⟨rfl, rfl⟩
  | k :: ks, x :: r, y :: q, h => by simp only [scals, Bool.and_eq_true] at h; have := scals_len h.2; simp [this.1, this.2]
  | [], _ :: _, _, h => by simp [scals] at h
  | [], [], _ :: _, h => by simp [scals] at h
  | _ :: _, [], _, h => by simp [scals] at h
  | _ :: _, _ :: _, [], h => by simp [scals] at h
theorem scals_split : ∀ {ks ls : List SK} {a b : List Value}, scals (ks ++ ls) a b = true → scals ks (a.take ks.length) (b.take ks.length) = true ∧ scals ls (a.drop ks.length) (b.drop ks.length) = true
  | [], ls, a, b, h => by simpa [scals] using h
  | k :: ks, ls, x :: r, y :: q, h => by
    simp only [List.cons_append, scals, Bool.and_eq_true] at h
    have := scals_split h.2
    simp [scals, h.1, this.1, this.2]
  | _ :: _, _, [], _, h => by simp [scals] at h
  | _ :: _, _, _ :: _, [], h => by simp [scals] at h

def reps {α : Type} (l : List α) : Nat → List α
  | 0 => []
  | n + 1 => l ++ reps l n
theorem reps_len {α : Type} (l : List α) (n : Nat) : (reps l n).length = n * l.length := by
  induction n with
  | zero => simp [reps]
  | succ n ih => simp [reps, ih, Nat.succ_mul, Nat.add_comm]

-- Which cells a type has whose values are told apart cell by cell.
mutual
def eqN' (P : Program) : Nat → TypeId → Option (List SK)
  | 0, _ => none
  | f + 1, t => match P.underlying t, P.info? t with
    | some (.int _), some info => bif decide (info.size = 1) then some [.i] else none
    | some .bool, some info => bif decide (info.size = 1) then some [.b] else none
    | some .string, some info => bif decide (info.size = 1) then some [.s] else none
    | some (.struct fs), some info => bif !(P.stoodInHeld t) then (match eqF P f 0 fs.toList with
        | some ks => bif decide (info.size = ks.length) then some ks else none
        | none => none) else none
    | some (.array m e), some info => match eqN' P f e, P.info? e with
        | some ks, some ie => bif decide (info.size = m * ks.length) && decide (ie.size = ks.length) then some (reps ks m) else none
        | _, _ => none
    | _, _ => none
def eqF (P : Program) : Nat → Nat → List Field → Option (List SK)
  | _, _, [] => some []
  | 0, _, _ :: _ => none
  | f + 1, off, x :: r => bif (x.name != "_") && decide (x.offset = off) then (match eqN' P f x.type with
    | some ks => match eqF P f (off + ks.length) r with
      | some ls => some (ks ++ ls)
      | none => none
    | none => none) else none
end

/-- A value of a type, by its cells. -/
def ofCells (P : Program) (t : TypeId) (cs : List Value) : Value :=
  match P.underlying t with
  | some (.struct _) => .agg cs.toArray
  | some (.array _ _) => .agg cs.toArray
  | _ => cs.headD undef

theorem bif_some2 {α : Type _} {c : Bool} {x : Option α} {z : α} (h : (bif c then x else none) = some z) : c = true ∧ x = some z := by
  cases c <;> simp_all

section
variable {P : Program}

theorem extract_take (cs : List Value) (i n : Nat) : cs.toArray.extract i (i + n) = ((cs.drop i).take n).toArray := by
  apply Array.ext'
  rw [Array.toList_extract]
  simp

theorem head_take (cs : List Value) (off : Nat) (h : off + 1 ≤ cs.length) : cs.toArray[off]? = some (((cs.drop off).take 1).headD undef) := by
  have hlt : off < cs.length := by omega
  have : cs.drop off = cs[off] :: cs.drop (off + 1) := List.drop_eq_getElem_cons hlt
  rw [this, List.take_succ_cons, List.headD_cons, List.getElem?_toArray]
  exact List.getElem?_eq_getElem hlt

theorem part_of {t : TypeId} {ks : List SK} {f : Nat} (h : eqN' P f t = some ks) (cs : List Value) (off : Nat) (hl : off + ks.length ≤ cs.length) (w : World) : (part t cs.toArray off).run P w = .ok (ofCells P t ((cs.drop off).take ks.length)) w := by
  cases f with
  | zero => simp [eqN'] at h
  | succ f =>
    simp only [eqN'] at h
    split at h
    case h_1 k info h1 h2 =>
      obtain ⟨hs, h⟩ := bif_some2 h
      cases h
      simp only [part, isAgg, Sem.run_bind, run_underlying h1, Result.andThen_ok, Sem.run_pure, Bool.false_eq_true, if_false, ofCells, h1, head_take cs off hl]
      rfl
    case h_2 info h1 h2 =>
      obtain ⟨hs, h⟩ := bif_some2 h
      cases h
      simp only [part, isAgg, Sem.run_bind, run_underlying h1, Result.andThen_ok, Sem.run_pure, Bool.false_eq_true, if_false, ofCells, h1, head_take cs off hl]
      rfl
    case h_3 info h1 h2 =>
      obtain ⟨hs, h⟩ := bif_some2 h
      cases h
      simp only [part, isAgg, Sem.run_bind, run_underlying h1, Result.andThen_ok, Sem.run_pure, Bool.false_eq_true, if_false, ofCells, h1, head_take cs off hl]
      rfl
    case h_4 fs info h1 h2 =>
      obtain ⟨_, h⟩ := bif_some2 h
      split at h
      · obtain ⟨hs, h⟩ := bif_some2 h
        cases h
        have hs := of_decide_eq_true hs
        simp [part, isAgg, run_underlying h1, ofCells, h1, sizeOf, typeInfo, h2, hs, extract_take]
      · cases h
    case h_5 m e info h1 h2 =>
      split at h
      · obtain ⟨hs, h⟩ := bif_some2 h
        cases h
        simp only [Bool.and_eq_true, decide_eq_true_eq] at hs
        simp [part, isAgg, run_underlying h1, ofCells, h1, sizeOf, typeInfo, h2, hs.1, extract_take, reps_len]
      · cases h
    case h_6 => cases h

theorem scal_one {k : SK} {as bs : List Value} (hs : scals [k] as bs = true) : ∃ a b, as = [a] ∧ bs = [b] ∧ scal2 k a b = true := by
  obtain ⟨h1, h2⟩ := scals_len hs
  match as, bs, h1, h2, hs with
  | [a], [b], _, _, hs => exact ⟨a, b, rfl, rfl, by simpa [scals] using hs⟩

mutual
theorem equal_of : ∀ (f : Nat) {t : TypeId} {ks : List SK}, eqN' P f t = some ks → ∀ (d : Nat), f ≤ d → ∀ (as bs : List Value), scals ks as bs = true → ∀ w, (Op.equalIn d t (ofCells P t as) (ofCells P t bs)).run P w = .ok (vEqs as bs) w
  | 0, t, ks, h => by simp [eqN'] at h
  | f + 1, t, ks, h => by
    intro d hd as bs hs w
    obtain ⟨d, rfl⟩ : ∃ e, d = e + 1 := ⟨d - 1, by omega⟩
    simp only [eqN'] at h
    split at h
    case h_1 k info h1 h2 =>
      obtain ⟨_, h⟩ := bif_some2 h
      cases h
      obtain ⟨a, b, rfl, rfl, hab⟩ := scal_one hs
      simp only [ofCells, h1, List.headD_cons, vEqs, Bool.and_true]
      cases a <;> cases b <;> simp only [scal2, decide_eq_true_eq, Bool.false_eq_true] at hab
      subst hab
      exact run_equalIn_int w d t _ _ _ _ h1
    case h_2 info h1 h2 =>
      obtain ⟨_, h⟩ := bif_some2 h
      cases h
      obtain ⟨a, b, rfl, rfl, hab⟩ := scal_one hs
      simp only [ofCells, h1, List.headD_cons, vEqs, Bool.and_true]
      cases a <;> cases b <;> simp only [scal2, decide_eq_true_eq, Bool.false_eq_true] at hab
      exact run_equalIn_bool' w d t _ _ h1
    case h_3 info h1 h2 =>
      obtain ⟨_, h⟩ := bif_some2 h
      cases h
      obtain ⟨a, b, rfl, rfl, hab⟩ := scal_one hs
      simp only [ofCells, h1, List.headD_cons, vEqs, Bool.and_true]
      cases a <;> cases b <;> simp only [scal2, decide_eq_true_eq, Bool.false_eq_true] at hab
      exact run_equalIn_string w d t _ _ h1
    case h_4 fs info h1 h2 =>
      obtain ⟨hst, h⟩ := bif_some2 h
      split at h
      · rename_i ks' hf
        obtain ⟨_, h⟩ := bif_some2 h
        cases h
        have hfo : P.fieldsOf t = fs := by simp [Program.fieldsOf, h1]
        simp only [ofCells, h1]
        rw [run_equalIn_struct w d t as.toArray bs.toArray (by rw [hfo]; exact h1) (by simpa using hst), hfo]
        obtain ⟨e1, e2⟩ := scals_len hs
        have t1 : (as.drop 0).take ks.length = as := by rw [List.drop_zero, ← e1, List.take_length]
        have t2 : (bs.drop 0).take ks.length = bs := by rw [List.drop_zero, ← e2, List.take_length]
        have := fields_of f hf d (by omega) as bs (by omega) (by omega) (by rw [t1, t2]; exact hs) w
        rw [this, t1, t2]
      · cases h
    case h_5 m e info h1 h2 =>
      split at h
      · rename_i ks' ie hk hie
        obtain ⟨hsz, h⟩ := bif_some2 h
        cases h
        simp only [Bool.and_eq_true, decide_eq_true_eq] at hsz
        simp only [ofCells, h1]
        simp only [Op.equalIn, Sem.run_bind, run_underlying h1, Result.andThen_ok]
        have hso : (sizeOf e).run P w = .ok ks'.length w := by simp [sizeOf, typeInfo, hie, hsz.2]
        rw [hso]
        simp only [Result.andThen_ok]
        have hlen := scals_len hs
        rw [reps_len] at hlen
        have key : ∀ (k i : Nat), i + k = m → scals (reps ks' k) (as.drop (i * ks'.length)) (bs.drop (i * ks'.length)) = true →
            (forIn (List.range' i k) ((none, ()) : Option Bool × Unit) fun i (__s : Option Bool × Unit) => do
              let __do_lift ← part e as.toArray (i * ks'.length)
              let __do_lift_1 ← part e bs.toArray (i * ks'.length)
              let __do_lift ← Op.equalIn d e __do_lift __do_lift_1
              if (!__do_lift) = true then pure (ForInStep.done (some false, ())) else pure (ForInStep.yield (none, ())) : Sem (Option Bool × Unit)).run P w =
              .ok (if vEqs (as.drop (i * ks'.length)) (bs.drop (i * ks'.length)) = true then none else some false, ()) w := by
          intro k
          induction k with
          | zero =>
            intro i hi hsc
            simp only [reps] at hsc
            have := scals_len hsc
            have h1 : as.drop (i * ks'.length) = [] := List.eq_nil_of_length_eq_zero this.1
            have h2 : bs.drop (i * ks'.length) = [] := List.eq_nil_of_length_eq_zero this.2
            simp [h1, h2, vEqs]
          | succ k ih =>
            intro i hi hsc
            simp only [reps] at hsc
            obtain ⟨s1, s2⟩ := scals_split hsc
            have l1 := scals_len s1
            simp only [List.length_take, List.length_drop] at l1
            rw [List.drop_drop, List.drop_drop] at s2
            have e3 : i * ks'.length + ks'.length = (i + 1) * ks'.length := by rw [Nat.succ_mul]
            rw [e3] at s2
            have ih := ih (i + 1) (by omega) s2
            have hle : i * ks'.length + ks'.length ≤ as.length ∨ ks'.length = 0 := by omega
            have hle' : i * ks'.length + ks'.length ≤ bs.length ∨ ks'.length = 0 := by omega
            have bound : ∀ cs : List Value, cs.length = m * ks'.length → i * ks'.length + ks'.length ≤ cs.length := fun cs h => by
              rw [h, e3]; exact Nat.mul_le_mul_right _ (by omega)
            have p1 := part_of hk as (i * ks'.length) (bound as hlen.1) w
            have p2 := part_of hk bs (i * ks'.length) (bound bs hlen.2) w
            have p3 := equal_of f hk d (by omega) _ _ s1 w
            have hv : vEqs (as.drop (i * ks'.length)) (bs.drop (i * ks'.length)) = (vEqs ((as.drop (i * ks'.length)).take ks'.length) ((bs.drop (i * ks'.length)).take ks'.length) && vEqs (as.drop ((i + 1) * ks'.length)) (bs.drop ((i + 1) * ks'.length))) := by
              rw [← e3, ← List.drop_drop, ← List.drop_drop, ← vEqs_append _ _ _ _ (by simp; have := bound as hlen.1; have := bound bs hlen.2; omega), List.take_append_drop, List.take_append_drop]
            rw [List.range'_succ, List.forIn_cons]
            simp only [Sem.run_bind, p1, p2, p3, Result.andThen_ok]
            rw [hv]
            cases vEqs ((as.drop (i * ks'.length)).take ks'.length) ((bs.drop (i * ks'.length)).take ks'.length)
            · simp
            · simpa using ih
        have hkey := key m 0 (by omega) (by simpa using hs)
        have hr : ∀ (g : Nat → Option Bool × Unit → Sem (ForInStep (Option Bool × Unit))), forIn [:m] ((none, ()) : Option Bool × Unit) g = forIn (List.range' 0 m) (none, ()) g := fun g => by
          simp [Std.Legacy.Range.forIn_eq_forIn_range', Std.Legacy.Range.size]
        rw [hr, hkey]
        simp only [Nat.zero_mul, List.drop_zero, Result.andThen_ok]
        cases vEqs as bs <;> simp
      · cases h
    case h_6 => cases h
theorem fields_of : ∀ (f : Nat) {off : Nat} {fs : List Field} {ks : List SK}, eqF P f off fs = some ks → ∀ (d : Nat), f ≤ d → ∀ (as bs : List Value), off + ks.length ≤ as.length → off + ks.length ≤ bs.length → scals ks ((as.drop off).take ks.length) ((bs.drop off).take ks.length) = true → ∀ w, (Op.eqFields d as.toArray bs.toArray fs).run P w = .ok (vEqs ((as.drop off).take ks.length) ((bs.drop off).take ks.length)) w
  | _, off, [], ks, h => by
    intro d hd as bs _ _ _ w
    simp only [eqF, Option.some.injEq] at h; subst h
    simp [Op.eqFields, vEqs]
  | 0, off, x :: r, ks, h => by simp [eqF] at h
  | f + 1, off, x :: r, ks, h => by
    intro d hd as bs ha hb hs w
    simp only [eqF] at h
    obtain ⟨hc, h⟩ := bif_some2 h
    simp only [Bool.and_eq_true, decide_eq_true_eq, bne_iff_ne] at hc
    split at h
    · rename_i k1 hk
      split at h
      · rename_i k2 hr
        simp only [Option.some.injEq] at h; subst h
        simp only [List.length_append] at ha hb hs ⊢
        obtain ⟨s1, s2⟩ := scals_split hs
        have e1 : ((as.drop off).take (k1.length + k2.length)).take k1.length = (as.drop off).take k1.length := by rw [List.take_take]; congr 1; omega
        have e2 : ((bs.drop off).take (k1.length + k2.length)).take k1.length = (bs.drop off).take k1.length := by rw [List.take_take]; congr 1; omega
        have e3 : ((as.drop off).take (k1.length + k2.length)).drop k1.length = (as.drop (off + k1.length)).take k2.length := by rw [List.drop_take, List.drop_drop]; congr 1; omega
        have e4 : ((bs.drop off).take (k1.length + k2.length)).drop k1.length = (bs.drop (off + k1.length)).take k2.length := by rw [List.drop_take, List.drop_drop]; congr 1; omega
        rw [e1, e2] at s1
        rw [e3, e4] at s2
        have ih1 := equal_of f hk d (by omega) _ _ s1 w
        have ih2 := fields_of f hr d (by omega) as bs (by omega) (by omega) s2 w
        have p1 := part_of hk as off (by omega) w
        have p2 := part_of hk bs off (by omega) w
        have hv : vEqs ((as.drop off).take (k1.length + k2.length)) ((bs.drop off).take (k1.length + k2.length)) = (vEqs ((as.drop off).take k1.length) ((bs.drop off).take k1.length) && vEqs ((as.drop (off + k1.length)).take k2.length) ((bs.drop (off + k1.length)).take k2.length)) := by
          rw [← e3, ← e4, ← e1, ← e2, ← vEqs_append _ _ _ _ (by simp; omega), List.take_append_drop, List.take_append_drop]
        rw [hv]
        simp only [Op.eqFields, if_pos hc.1, Sem.run_bind, hc.2, p1, p2, Result.andThen_ok, ih1]
        cases vEqs ((as.drop off).take k1.length) ((bs.drop off).take k1.length)
        · simp
        · simp [ih2]
      · cases h
    · cases h
end
end

def skEq : SK → SK → Bool
  | .i, .i => true | .b, .b => true | .s, .s => true | _, _ => false
def sksEq : List SK → List SK → Bool
  | a :: r, b :: q => skEq a b && sksEq r q
  | [], [] => true
  | _, _ => false
theorem sksEq_eq : ∀ {a b : List SK}, sksEq a b = true → a = b
  | [], [], _ => rfl
  | a :: r, b :: q, h => by
    simp only [sksEq, Bool.and_eq_true] at h
    rw [sksEq_eq h.2]
    cases a <;> cases b <;> first | rfl | (simp [skEq] at h)
  | [], _ :: _, h => by simp [sksEq] at h
  | _ :: _, [], h => by simp [sksEq] at h
def elook : List (Nat × List SK) → Nat → Option (List SK)
  | [], _ => none
  | (k, v) :: r, n => bif (eqN k n) then some v else elook r n
/-- Types that are told apart cell by cell. -/
structure EqsOk (P : Program) (E : List (Nat × List SK)) : Prop where
  ok : ∀ t ks, elook E t = some ks → eqN' P 60 t = some ks ∧ P.eqGuardType P.depth t = false
def eqsChk (P : Program) : List (Nat × List SK) → Bool
  | [] => true
  | (t, ks) :: r => (match eqN' P 60 t with
    | some ks' => sksEq ks ks'
    | none => false) && !(P.eqGuardType P.depth t) && eqsChk P r
theorem eqsOk_of {P : Program} : ∀ {E : List (Nat × List SK)}, eqsChk P E = true → EqsOk P E
  | [], _ => ⟨fun t ks h => by simp [elook] at h⟩
  | (t, ks) :: r, h => by
    simp only [eqsChk, Bool.and_eq_true, Bool.not_eq_true'] at h
    refine ⟨fun t' ks' h' => ?_⟩
    simp only [elook] at h'
    cases hb : (eqN t t') with
    | false => rw [hb] at h'; exact (eqsOk_of h.2).ok t' ks' h'
    | true =>
      rw [hb] at h'
      have e1 := eqN_true hb
      simp only [cond_true, Option.some.injEq] at h'
      subst e1; subst h'
      obtain ⟨⟨h1, h2⟩, _⟩ := h
      split at h1
      · rename_i ks' he
        rw [sksEq_eq h1]
        exact ⟨he, h2⟩
      · cases h1
end Go.Vg
/- The evaluation of operations that do nothing but compute, and that it is right. -/
namespace Go.Vg
open Go

/-! ### Tables of types and of variables -/

inductive TD
  | int (k : IntKind) | bool | str | slice (e : TypeId) | arr (n : Nat) (e : TypeId) | struct (fs : List (Nat × TypeId)) | ptr (e : TypeId) | fn | map (k e : TypeId) | other
def TD.of : TypeDesc → TD
  | .int k => .int k
  | .bool => .bool
  | .string => .str
  | .slice e => .slice e
  | .array n e => .arr n e
  | .struct fs => .struct (fs.toList.map fun f => (f.offset, f.type))
  | .pointer e => .ptr e
  | .func .. => .fn
  | .map k e => .map k e
  | _ => .other
def TD.isAgg : TD → Bool
  | .struct _ => true
  | .arr _ _ => true
  | _ => false
structure TI : Type 1 where
  d : TD
  sz : Nat
  bytes : Nat
  zero : List V
abbrev Tab := List (TypeId × TI)
def tlook : Tab → Nat → Option TI
  | [], _ => none
  | (k, v) :: r, n => bif (eqN k n) then some v else tlook r n
abbrev Glb := List (Nat × List V)
def glook : Glb → Nat → Option (List V)
  | [], _ => none
  | (k, v) :: r, n => bif (eqN k n) then some v else glook r n

def lo : IntKind → Int
  | .i8 => -128 | .i16 => -32768 | .i32 => -2147483648 | .i64 => -9223372036854775808 | _ => 0
def hi : IntKind → Int
  | .i8 => 127 | .i16 => 32767 | .i32 => 2147483647 | .i64 => 9223372036854775807
  | .u8 => 255 | .u16 => 65535 | .u32 => 4294967295 | .u64 => 18446744073709551615
theorem lo_eq (k : IntKind) : lo k = k.min := by cases k <;> rfl
theorem hi_eq (k : IntKind) : hi k = k.max := by cases k <;> rfl
theorem has_iff (k : IntKind) (n : Int) : k.has n ↔ lo k ≤ n ∧ n ≤ hi k := by rw [lo_eq, hi_eq]; rfl
def hasB (k : IntKind) (n : Int) : Bool := decide (lo k ≤ n) && decide (n ≤ hi k)
theorem hasB_has {k : IntKind} {n : Int} (h : hasB k n = true) : k.has n := by
  simpa [hasB, has_iff] using h

def constV1 : Value → V
  | .int k n => bif hasB k n then .int k (.lit n) else .junk
  | .bool b => .bool (.lit b)
  | .slice none 0 0 => .nilsl
  | .pointer none => .nilptr
  | .nilFunc => .nilfn
  | .string s => bif (leN s.data.toList.length 1000) then .str (.lit s.data.toList) else .junk
  | .func (.func f) ⟨[]⟩ ⟨[]⟩ => .fn f [] []
  | _ => .junk

def constV (v : Value) : V :=
  match v with
  | .agg ⟨cs⟩ => bif cs.all Value.oneCell' then .agg (cs.map constV1) else .junk
  | v => constV1 v
theorem constV1_rd (w : World) (F : Nat → Prop) (v : Value) : RD w F v (constV1 v) := by
  unfold constV1
  split
  case h_1 k n =>
    cases h : hasB k n
    · exact .junk _
    · exact .int k _ n rfl (hasB_has h)
  case h_2 => exact .bool _ _ rfl
  case h_3 => exact .nilsl _ 0 rfl
  case h_4 => exact .nilptr
  case h_5 => exact .nilfn
  case h_6 s =>
    cases h : (leN s.data.toList.length 1000)
    · exact .junk _
    · refine .str _ _ rfl ?_
      have := leN_true h
      simp only [SE.den, LIM]
      omega
  case h_7 f => exact .fn0 f
  case h_8 => exact .junk _

theorem constV_rd (w : World) (F : Nat → Prop) (v : Value) : RD w F v (constV v) := by
  unfold constV
  split
  · rename_i cs
    cases h : cs.all Value.oneCell' with
    | false => exact .junk _
    | true =>
      refine .agg _ _ (by simp) (fun c hc => List.all_eq_true.1 h c (by simpa using hc)) fun i c x hi hx => ?_
      rw [List.getElem?_map, Option.map_eq_some_iff] at hx
      obtain ⟨c', hc', rfl⟩ := hx
      have : cs[i]? = some c := by simpa using hi
      rw [this] at hc'; cases hc'
      exact constV1_rd w F c
  · exact constV1_rd w F v

def isAggV : Value → Bool
  | .agg _ => true
  | _ => false
structure TabOk (P : Program) (T : Tab) : Prop where
  ok : ∀ t ti, tlook T t = some ti → ∃ info zv desc, P.info? t = some info ∧ P.underlying t = some desc ∧ TD.of desc = ti.d ∧ info.size = ti.sz ∧ info.bytes = ti.bytes ∧
    info.zero = some zv ∧ zv.cells.toList.map constV = ti.zero ∧ zv.cells.size = ti.sz ∧ (∀ v, v ∈ zv.cells → v.oneCell' = true) ∧ (∀ fields, desc = .struct fields → ∀ f, f ∈ fields.toList → ((P.info? f.type).map (·.size)).isSome = true) ∧ isAggV zv = ti.d.isAgg

structure GlbOk (G : Glb) (w : World) (F : Nat → Prop) : Prop where
  ok : ∀ g cs, glook G g = some cs → RD w F (.pointer (some ⟨g, 0, none⟩)) (.rptr cs)

structure Ctx : Type 1 where
  T : Tab
  G : Glb
  N : Nat
  pin : List Nat
  /-- Types that are told apart cell by cell. -/
  E : List (Nat × List SK)

/-! ### What a value is, of which it is told -/
section
variable {w : World} {F : Nat → Prop} {β : Bt} {o : Own} {v : Value}
theorem RA.of_int {k : IntKind} {e : IE} (h : RA w F β o v (.int k e)) : v = .int k e.den ∧ k.has e.den := by
  generalize hx : V.int k e = x at h
  cases h with
  | d v x h => subst hx; cases h with
    | int k e n h hk => subst h; exact ⟨rfl, hk⟩
    | nilsl x sz hx => simp [V.elems] at hx
    | slice x sz es hx => simp [V.elems] at hx
  | _ => cases hx
theorem RA.of_bool {e : BE} (h : RA w F β o v (.bool e)) : v = .bool e.den := by
  generalize hx : V.bool e = x at h
  cases h with
  | d v x h => subst hx; cases h with
    | bool e n h => subst h; rfl
    | nilsl x sz hx => simp [V.elems] at hx
    | slice x sz es hx => simp [V.elems] at hx
  | _ => cases hx
theorem RA.of_str {e : SE} (h : RA w F β o v (.str e)) : v = .string ⟨e.den.toArray⟩ ∧ e.den.length ≤ LIM := by
  generalize hx : V.str e = x at h
  cases h with
  | d v x h => subst hx; cases h with
    | str e n h hl => exact ⟨by rw [h], hl⟩
    | nilsl x sz hx => simp [V.elems] at hx
    | slice x sz es hx => simp [V.elems] at hx
  | _ => cases hx
theorem RA.of_nilptr (h : RA w F β o v .nilptr) : v = .pointer none := by
  generalize hx : V.nilptr = x at h
  cases h with
  | d v x h => subst hx; cases h with
    | nilptr => rfl
    | nilsl x sz hx => simp [V.elems] at hx
    | slice x sz es hx => simp [V.elems] at hx
  | _ => cases hx
theorem RA.of_nilfn (h : RA w F β o v .nilfn) : v = .nilFunc := by
  generalize hx : V.nilfn = x at h
  cases h with
  | d v x h => subst hx; cases h with
    | nilfn => rfl
    | nilsl x sz hx => simp [V.elems] at hx
    | slice x sz es hx => simp [V.elems] at hx
  | _ => cases hx
theorem RA.of_ptr {id off : Nat} (h : RA w F β o v (.ptr id off)) : ∃ b cs, β id = some b ∧ olook o id = some (.var cs) ∧ v = .pointer (some ⟨b, off, none⟩) := by
  generalize hx : V.ptr id off = x at h
  cases h with
  | d v x h => subst hx; cases h with
    | nilsl x sz hx => simp [V.elems] at hx
    | slice x sz es hx => simp [V.elems] at hx
  | ptr id off b hb cs h => cases hx; exact ⟨b, cs, hb, h, rfl⟩
  | _ => cases hx
theorem RA.of_mp {id : Nat} (h : RA w F β o v (.mp id)) : ∃ (b : Nat) (α : Type) (f : α → V) (l : List (Int × α)), β id = some b ∧ olook o id = some (.map f l) ∧ v = .map (some b) := by
  generalize hx : V.mp id = x at h
  cases h with
  | d v x h => subst hx; cases h with
    | nilsl x sz hx => simp [V.elems] at hx
    | slice x sz es hx => simp [V.elems] at hx
  | mp id b hb f l h => cases hx; exact ⟨b, _, f, l, hb, h, rfl⟩
  | _ => cases hx
theorem RA.of_agg {xs : List V} (h : RA w F β o v (.agg xs)) : ∃ cs, v = .agg cs ∧ cs.size = xs.length ∧ (∀ c, c ∈ cs → c.oneCell' = true) ∧
    ∀ (i : Nat) (c : Value) (x : V), cs[i]? = some c → xs[i]? = some x → RA w F β o c x := by
  generalize hx : V.agg xs = x at h
  cases h with
  | d v x h => subst hx; cases h with
    | agg cs xs hl hone h => exact ⟨cs, rfl, hl, hone, fun i c x h1 h2 => .d _ _ (h i c x h1 h2)⟩
    | nilsl x sz hx => simp [V.elems] at hx
    | slice x sz es hx => simp [V.elems] at hx
  | agg cs xs hl hone h => cases hx; exact ⟨cs, rfl, hl, hone, h⟩
  | _ => cases hx
theorem RA.of_tup {xs : List V} (h : RA w F β o v (.tup xs)) : ∃ cs, v = .tuple cs ∧ cs.size = xs.length ∧
    ∀ (i : Nat) (c : Value) (x : V), cs[i]? = some c → xs[i]? = some x → RA w F β o c x := by
  generalize hx : V.tup xs = x at h
  cases h with
  | d v x h => subst hx; cases h with
    | tup cs xs hl h => exact ⟨cs, rfl, hl, fun i c x h1 h2 => .d _ _ (h i c x h1 h2)⟩
    | nilsl x sz hx => simp [V.elems] at hx
    | slice x sz es hx => simp [V.elems] at hx
  | tup cs xs hl h => cases hx; exact ⟨cs, rfl, hl, h⟩
  | _ => cases hx
theorem RA.of_fn {f : FuncId} {xs ys : List V} (h : RA w F β o v (.fn f xs ys)) : ∃ fs cs, v = .func (.func f) fs cs ∧ fs.size = xs.length ∧ cs.size = ys.length ∧
    (∀ (i : Nat) (c : Value) (x : V), fs[i]? = some c → xs[i]? = some x → RA w F β o c x) ∧ ∀ (i : Nat) (c : Value) (x : V), cs[i]? = some c → ys[i]? = some x → RA w F β o c x := by
  generalize hx : V.fn f xs ys = x at h
  cases h with
  | d v x h => subst hx; cases h with
    | fn _ fs cs _ _ hf hc h1 h2 => exact ⟨fs, cs, rfl, hf, hc, fun i c x a b => .d _ _ (h1 i c x a b), fun i c x a b => .d _ _ (h2 i c x a b)⟩
    | nilsl x sz hx => simp [V.elems] at hx
    | slice x sz es hx => simp [V.elems] at hx
  | fn f fs cs xs ys hf hc h1 h2 => cases hx; exact ⟨fs, cs, rfl, hf, hc, h1, h2⟩
  | _ => cases hx
/-- A slice that nobody writes. -/
theorem RA.of_elems {x : V} {sz : Nat} {es : List V} (h : RA w F β o v x) (hx : x.elems = some (sz, es)) : RD w F v x := by
  cases h with
  | d v x h => exact h
  | _ => simp [V.elems] at hx
theorem RA.of_rptr {xs : List V} (h : RA w F β o v (.rptr xs)) : RD w F v (.rptr xs) := by
  generalize hx : V.rptr xs = x at h
  cases h with
  | d v x h => exact h
  | _ => cases hx
theorem RA.of_osl {id : Nat} (h : RA w F β o v (.osl id)) : ∃ (fx : Bool) (e : TypeId) (sz : Nat) (α : Type) (f : α → V) (l : List α), olook o id = some (.arr fx e sz f l) ∧
    ((l = [] ∧ v = .slice none 0 0) ∨ ∃ b c cur, β id = some b ∧ v = .slice (some ⟨b, 0, none⟩) l.length c ∧ l.length ≤ c ∧ c ≤ maxLen ∧ l.length ≤ LIM ∧ w.heap[b]? = some (.cells cur e (0, 0)) ∧ cur.size = c * sz) := by
  generalize hx : V.osl id = x at h
  cases h with
  | d v x h => subst hx; cases h with
    | nilsl x sz hx => simp [V.elems] at hx
    | slice x sz es hx => simp [V.elems] at hx
  | osl id b hb fx e sz f l c h hc hm hl cur hcur hcap => cases hx; exact ⟨fx, e, sz, _, f, l, h, .inr ⟨b, c, cur, hb, rfl, hc, hm, hl, hcur, hcap⟩⟩
  | osl0 id fx e sz f h => cases hx; exact ⟨fx, e, sz, _, f, [], h, .inl ⟨rfl, rfl⟩⟩
  | _ => cases hx
theorem RA.of_view {id : Nat} {lo n : IE} (h : RA w F β o v (.view id lo n)) : ∃ (fx : Bool) (e : TypeId) (sz : Nat) (α : Type) (f : α → V) (l : List α) (i m : Nat), olook o id = some (.arr fx e sz f l) ∧ lo.den = (i : Int) ∧ n.den = (m : Int) ∧ i + m ≤ l.length ∧
    ((m = 0 ∧ ∃ ad c, v = .slice ad 0 c) ∨ ∃ b c cur, 0 < m ∧ β id = some b ∧ v = .slice (some ⟨b, i * sz, none⟩) m (c - i) ∧ l.length ≤ c ∧ c ≤ maxLen ∧ l.length ≤ LIM ∧ w.heap[b]? = some (.cells cur e (0, 0)) ∧ cur.size = c * sz) := by
  generalize hx : V.view id lo n = x at h
  cases h with
  | d v x h => subst hx; cases h with
    | nilsl x sz hx => simp [V.elems] at hx
    | slice x sz es hx => simp [V.elems] at hx
  | view id b hb fx e sz f l c h hc hm hl cur hcur hcap lo n i m hlo hn him hpos => cases hx; exact ⟨fx, e, sz, _, f, l, i, m, h, hlo, hn, him, .inr ⟨b, c, cur, hpos, hb, rfl, hc, hm, hl, hcur, hcap⟩⟩
  | view0 id fx e sz f l h lo n i hlo hn hi ad c => cases hx; exact ⟨fx, e, sz, _, f, l, i, 0, h, hlo, hn, hi, .inl ⟨rfl, ad, c, rfl⟩⟩
  | _ => cases hx
theorem RA.of_eptr {id off : Nat} {i : IE} (h : RA w F β o v (.eptr id i off)) : ∃ (b : Nat) (fx : Bool) (e : TypeId) (sz n : Nat) (α : Type) (f : α → V) (l : List α), β id = some b ∧ olook o id = some (.arr fx e sz f l) ∧
    i.den = (n : Int) ∧ n < l.length ∧ v = .pointer (some ⟨b, n * sz + off, none⟩) := by
  generalize hx : V.eptr id i off = x at h
  cases h with
  | d v x h => subst hx; cases h with
    | nilsl x sz hx => simp [V.elems] at hx
    | slice x sz es hx => simp [V.elems] at hx
  | eptr id off b hb fx e sz i n f l h hi hn => cases hx; exact ⟨b, fx, e, sz, n, _, f, l, hb, h, hi, hn, rfl⟩
  | _ => cases hx
end

/-! ### Operands -/

def memb : List (Nat × Bool) → Nat → Bool → Bool
  | [], _, _ => false
  | (t, b) :: r, n, c => ((eqN t n) && (b == c)) || memb r n c
theorem memb_mem {l : List (Nat × Bool)} {n : Nat} {c : Bool} (h : memb l n c = true) : (n, c) ∈ l := by
  induction l with
  | nil => simp [memb] at h
  | cons x r ih =>
    obtain ⟨t, b⟩ := x
    simp only [memb, Bool.or_eq_true, Bool.and_eq_true, beq_iff_eq] at h
    rcases h with ⟨h1, h2⟩ | h
    · have := eqN_true h1
      subst this; subst h2
      exact List.mem_cons_self
    · exact List.mem_cons_of_mem _ (ih h)

def evalO (c : Ctx) (e : Env) : Operand → V
  | .tmp t => look e t
  | .const v => constV v
  | .func f => .fn f [] []
  | .global g => match glook c.G g with
    | some cs => .rptr cs
    | none => .junk

/-- What a slot holds, where these guards hold. -/
def res (e : Env) (im : List (Nat × Bool)) (x : V) : V :=
  match x with
  | .opt t b v => bif memb im t b then v else match look e t with
    | .bool (.lit c) => bif c == b then v else .junk
    | _ => .junk
  | .nb _ => .junk
  | x => x

def RE (w : World) (F : Nat → Prop) (β : Bt) (o : Own) (tm : Array Value) (val : Value) : V → Prop
  | .opt t b v => (tm.getD t undef = .bool b ∧ RA w F β o val v) ∨ (tm.getD t undef ≠ .bool b ∧ val = undef)
  | .nb b => val ≠ .bool b
  | x => RA w F β o val x

/-- The state is as it is told. -/
structure Rel (P : Program) (c : Ctx) (w0 : World) (F0 S0 : Nat → Prop) (F : Nat → Prop) (β : Bt) (s : St) (tm : Array Value) (w : World) : Prop where
  n : tm.size = c.N
  env : ∀ t, RE w F β s.o tm (tm.getD t undef) (look s.e t)
  own : OwnOk w F β s.o
  F0F : ∀ b, F0 b → F b
  Fnew : ∀ b, b < w0.heap.size → F b → F0 b
  Flt : ∀ b, F b → b < w.heap.size
  dom : ∀ id, olook s.o id = none → β id = none
  fresh : ∀ id ent b, olook s.o id = some ent → β id = some b → w0.heap.size ≤ b ∨ S0 b
  keep : Keep S0 w0 w
  glob : GlbOk c.G w F
  tab : TabOk P c.T
  eqs : EqsOk P c.E

section
variable {P : Program} {c : Ctx} {w0 : World} {F0 S0 F : Nat → Prop} {β : Bt} {s : St} {tm : Array Value} {w : World}

theorem RE.ra {o : Own} {val : Value} {x : V} (h : RE w F β o tm val x) (h1 : ∀ t b v, x ≠ .opt t b v) (h2 : ∀ b, x ≠ .nb b) : RA w F β o val x := by
  cases x <;> first | exact h | exact absurd rfl (h1 _ _ _) | exact absurd rfl (h2 _)

theorem look_lit {t : Nat} {b : Bool} (hr : Rel P c w0 F0 S0 F β s tm w) (h : look s.e t = .bool (.lit b)) : tm.getD t undef = .bool b := by
  have := hr.env t
  rw [h] at this
  exact RA.of_bool (e := .lit b) this

theorem res_ra {a : Act} (ht : a.tmps = tm) (hr : Rel P c w0 F0 S0 F β s tm w) {im : List (Nat × Bool)} (him : ∀ t b, (t, b) ∈ im → tm.getD t undef = .bool b) (x : Operand) :
    RA w F β s.o (a.eval x) (res s.e im (evalO c s.e x)) := by
  cases x with
  | const v =>
    have h1 : ∀ v, res s.e im (constV1 v) = constV1 v := fun v => by unfold constV1; split <;> first | rfl | (split <;> rfl) | (rename_i k n; cases hasB k n <;> rfl) | (rename_i q; cases (leN q.data.toList.length 1000) <;> rfl)
    have : res s.e im (constV v) = constV v := by
      unfold constV
      split
      · rename_i cs; cases cs.all Value.oneCell' <;> rfl
      · exact h1 v
    simp only [evalO, this, Act.eval]
    exact .d _ _ (constV_rd w F v)
  | func f => exact .d _ _ (.fn0 f)
  | global g =>
    simp only [evalO, Act.eval]
    cases h : glook c.G g with
    | none => exact .junk _
    | some cs => exact .d _ _ (hr.glob.ok g cs h)
  | tmp t =>
    have he := hr.env t
    simp only [evalO, Act.eval, ht]
    cases hx : look s.e t with
    | opt t' b v =>
      rw [hx] at he
      simp only [RE] at he
      simp only [res]
      cases hm : memb im t' b with
      | true =>
        have h1 := him _ _ (memb_mem hm)
        rcases he with ⟨_, h2⟩ | ⟨h2, _⟩
        · exact h2
        · exact absurd h1 h2
      | false =>
        simp only [cond_false]
        split
        · rename_i c' hc'
          have h1 := look_lit hr hc'
          cases hcb : (c' == b) with
          | true =>
            simp only [beq_iff_eq] at hcb
            subst hcb
            rcases he with ⟨_, h2⟩ | ⟨h2, _⟩
            · exact h2
            · exact absurd h1 h2
          | false => exact .junk _
        · exact .junk _
    | nb b => exact .junk _
    | _ => rw [hx] at he; exact he

end
end Go.Vg
/- Operations that only compute. -/
namespace Go.Vg
open Go

def cmpI (o : BinOp) (a b : IE) : BE :=
  match a, b with
  | .lit x, .lit y => .lit (cmpD o x y)
  | _, _ => .cmp o a b
def arI (o : BinOp) (k : IntKind) (a b : IE) : IE :=
  match a, b with
  | .lit x, .lit y => match o with
    | .add => .lit (arD .add k x y)
    | .sub => .lit (arD .sub k x y)
    | .mul => .lit (arD .mul k x y)
    | _ => .ar o k a b
  | _, _ => .ar o k a b
def wrapI (k k' : IntKind) (a : IE) : IE := bif decide (lo k ≤ lo k') && decide (hi k' ≤ hi k) then a else .wrap k a
def iteB (c a b : BE) : BE :=
  match a, b with
  | .lit true, .lit false => c
  | _, _ => .ite c a b
def notB (a : BE) : BE :=
  match a with
  | .lit b => .lit (!b)
  | .not b => b
  | _ => .not a

theorem cmpI_den (o : BinOp) (a b : IE) : (cmpI o a b).den = cmpD o a.den b.den := by
  unfold cmpI; split <;> simp [BE.den, IE.den]
theorem arI_den (o : BinOp) (k : IntKind) (a b : IE) : (arI o k a b).den = arD o k a.den b.den := by
  unfold arI; split
  · split <;> simp [IE.den]
  · simp [IE.den]
theorem iteB_den (c a b : BE) : (iteB c a b).den = if c.den = true then a.den else b.den := by
  unfold iteB; split
  · simp only [BE.den]; cases c.den <;> simp
  · simp [BE.den]
theorem notB_den (a : BE) : (notB a).den = !a.den := by
  unfold notB; split <;> simp [BE.den]
theorem wrap_id {k : IntKind} {n : Int} (h : k.has n) : k.wrap n = n := by
  rw [has_iff] at h
  cases k <;> simp only [lo, hi] at h <;> simp only [IntKind.wrap, IntKind.bits, IntKind.signed] <;> simp <;> omega
theorem wrap_has (k : IntKind) (n : Int) : k.has (k.wrap n) := by
  rw [has_iff]
  cases k <;> simp only [lo, hi, IntKind.wrap, IntKind.bits, IntKind.signed] <;> simp <;> omega
theorem wrapI_den {k k' : IntKind} {a : IE} (h : k'.has a.den) : (wrapI k k' a).den = k.wrap a.den := by
  unfold wrapI
  cases hc : decide (lo k ≤ lo k') && decide (hi k' ≤ hi k) with
  | false => simp [IE.den]
  | true =>
    simp only [cond_true]
    simp only [Bool.and_eq_true, decide_eq_true_eq] at hc
    rw [has_iff] at h
    exact (wrap_id (by rw [has_iff]; omega)).symm

/-- A number that is not below 0 by its form. -/
def IE.nn : IE → Bool
  | .lit n => decide (0 ≤ n)
  | .nat _ => true
  | .byte _ => true
  | .len _ => true
  | .slen _ => true
  | _ => false
theorem IE.nn_den {e : IE} (h : e.nn = true) : 0 ≤ e.den := by
  cases e <;> simp_all [IE.nn, IE.den] <;> omega
def IE.nz : IE → Bool
  | .lit n => decide (n ≠ 0)
  | _ => false
theorem IE.nz_den {e : IE} (h : e.nz = true) : e.den ≠ 0 := by
  cases e <;> simp_all [IE.nz, IE.den]

def keq (a b : IntKind) : Bool := decide (a = b)

def binV (op : BinOp) (x y : V) : Option V :=
  match x, y with
  | .int k a, .int k' b =>
    match op with
    | .shl => bif b.nn then some (.int k (.sh .shl k a b)) else none
    | .shr => bif b.nn then some (.int k (.sh .shr k a b)) else none
    | .quo => bif b.nz && keq k k' then some (.int k (arI .quo k a b)) else none
    | .rem => bif b.nz && keq k k' then some (.int k (arI .rem k a b)) else none
    | .add => bif keq k k' then some (.int k (arI .add k a b)) else none
    | .sub => bif keq k k' then some (.int k (arI .sub k a b)) else none
    | .mul => bif keq k k' then some (.int k (arI .mul k a b)) else none
    | .and => bif keq k k' then some (.int k (arI .and k a b)) else none
    | .or => bif keq k k' then some (.int k (arI .or k a b)) else none
    | .xor => bif keq k k' then some (.int k (arI .xor k a b)) else none
    | .andNot => bif keq k k' then some (.int k (arI .andNot k a b)) else none
    | .eql => bif keq k k' then some (.bool (cmpI .eql a b)) else none
    | .neq => bif keq k k' then some (.bool (cmpI .neq a b)) else none
    | .lss => bif keq k k' then some (.bool (cmpI .lss a b)) else none
    | .leq => bif keq k k' then some (.bool (cmpI .leq a b)) else none
    | .gtr => bif keq k k' then some (.bool (cmpI .gtr a b)) else none
    | .geq => bif keq k k' then some (.bool (cmpI .geq a b)) else none
  | .str a, .str b =>
    match op with
    | .eql => some (.bool (.seq a b))
    | .neq => some (.bool (.not (.seq a b)))
    | _ => none
  | _, _ => none
/-- What is to be shown ahead of an operation, and what it yields. -/
def divV (op : BinOp) (x y : V) : Option (BE × V) :=
  match x, y with
  | .int k a, .int k' b =>
    match op with
    | .quo => bif keq k k' then some (cmpI .neq b (.lit 0), .int k (arI .quo k a b)) else none
    | .rem => bif keq k k' then some (cmpI .neq b (.lit 0), .int k (arI .rem k a b)) else none
    | .shl => some (cmpI .geq b (.lit 0), .int k (.sh .shl k a b))
    | .shr => some (cmpI .geq b (.lit 0), .int k (.sh .shr k a b))
    | _ => none
  | _, _ => none

theorem tmod_has {k : IntKind} {a b : Int} (ha : k.has a) : k.has (a.tmod b) := by
  rw [has_iff] at *
  have h1 : (a.tmod b).natAbs ≤ a.natAbs := by rw [Int.natAbs_tmod]; exact Nat.mod_le _ _
  rcases Int.lt_or_le a 0 with h | h
  · have h2 : a.tmod b ≤ 0 := by
      have := Int.tmod_nonneg b (a := -a) (by omega)
      rw [Int.neg_tmod] at this; omega
    cases k <;> simp only [lo, hi] at * <;> omega
  · have h2 := Int.tmod_nonneg b h
    cases k <;> simp only [lo, hi] at * <;> omega
theorem fdiv_pow_has {k : IntKind} {a : Int} (n : Nat) (ha : k.has a) : k.has (a.fdiv (2 ^ n)) := by
  rw [has_iff] at *
  have hp : (0 : Int) < 2 ^ n := Int.pow_pos (by decide)
  rw [Int.fdiv_eq_ediv_of_nonneg _ (Int.le_of_lt hp)]
  have h1 : a / 2 ^ n ≤ hi k := by
    rcases Int.lt_or_le a 0 with h | h
    · have : a / 2 ^ n < 0 := Int.ediv_neg_of_neg_of_pos h hp
      have : 0 ≤ hi k := by cases k <;> decide
      omega
    · exact Int.le_trans (Int.ediv_le_self _ h) ha.2
  refine ⟨?_, h1⟩
  rcases Int.lt_or_le a 0 with h | h
  · rw [Int.le_ediv_iff_mul_le hp]
    have h2 : (1 : Int) ≤ 2 ^ n := hp
    have h3 : lo k ≤ 0 := by cases k <;> decide
    have h4 : lo k * 2 ^ n ≤ lo k * 1 := Int.mul_le_mul_of_nonpos_left h3 h2
    omega
  · have h3 : lo k ≤ 0 := by cases k <;> decide
    have := Int.ediv_nonneg h (Int.le_of_lt hp)
    omega

theorem ra_int {w : World} {F : Nat → Prop} {β : Bt} {o : Own} {k : IntKind} {e : IE} {n : Int} (h : e.den = n) (hk : k.has n) : RA w F β o (.int k n) (.int k e) := .d _ _ (.int _ _ _ h hk)
theorem ra_bool {w : World} {F : Nat → Prop} {β : Bt} {o : Own} {e : BE} {b : Bool} (h : e.den = b) : RA w F β o (.bool b) (.bool e) := .d _ _ (.bool _ _ h)

theorem bif_some {α : Type _} {c : Bool} {x z : α} (h : (bif c then some x else none) = some z) : c = true ∧ x = z := by
  cases c <;> simp_all

theorem binV_run {P : Program} {w : World} {F : Nat → Prop} {β : Bt} {o : Own} {op : BinOp} {t : TypeId} {ox oy : Operand} {x y : V} {a b : Value} {z : V}
    (ha : RA w F β o a x) (hb : RA w F β o b y) (h : binV op x y = some z) :
    ∃ v, (∀ w', (do eqGuard op t ox oy a b; binOp op t a b : Sem Value).run P w' = .ok v w') ∧ RA w F β o v z := by
  unfold binV at h
  split at h
  · rename_i k e k' e'
    obtain ⟨rfl, hka⟩ := RA.of_int ha
    obtain ⟨rfl, hkb⟩ := RA.of_int hb
    have hg : ∀ w', (eqGuard op t ox oy (.int k e.den) (.int k' e'.den)).run P w' = .ok () w' := by
      intro w'; unfold eqGuard; cases op <;> rfl
    simp only [Sem.run_bind, hg, Result.andThen_ok]
    split at h <;> obtain ⟨hc, rfl⟩ := bif_some h <;>
      (try simp only [Bool.and_eq_true, keq, decide_eq_true_eq] at hc)
    case h_1 =>
      have hn := IE.nn_den hc
      have hn' : ¬ (e'.den < 0) := by omega
      exact ⟨.int k (shD .shl k e.den e'.den), fun w' => by simp [binOp, Op.shift, hn', shD], ra_int (by simp [IE.den]) (wrap_has _ _)⟩
    case h_2 =>
      have hn := IE.nn_den hc
      have hn' : ¬ (e'.den < 0) := by omega
      exact ⟨.int k (shD .shr k e.den e'.den), fun w' => by simp [binOp, Op.shift, hn', shD], ra_int (by simp [IE.den]) (fdiv_pow_has _ hka)⟩
    case h_3 =>
      obtain ⟨hc1, rfl⟩ := hc
      have hn := IE.nz_den hc1
      exact ⟨.int k (arD .quo k e.den e'.den), fun w' => by simp [binOp, Op.intDiv, hn, arD], ra_int (arI_den _ _ _ _) (wrap_has _ _)⟩
    case h_4 =>
      obtain ⟨hc1, rfl⟩ := hc
      have hn := IE.nz_den hc1
      exact ⟨.int k (arD .rem k e.den e'.den), fun w' => by simp [binOp, Op.intDiv, hn, arD], ra_int (arI_den _ _ _ _) (tmod_has hka)⟩
    case h_5 => subst hc; exact ⟨.int k (arD .add k e.den e'.den), fun w' => by simp [binOp, Op.intArith, arD], ra_int (arI_den _ _ _ _) (wrap_has _ _)⟩
    case h_6 => subst hc; exact ⟨.int k (arD .sub k e.den e'.den), fun w' => by simp [binOp, Op.intArith, arD], ra_int (arI_den _ _ _ _) (wrap_has _ _)⟩
    case h_7 => subst hc; exact ⟨.int k (arD .mul k e.den e'.den), fun w' => by simp [binOp, Op.intArith, arD], ra_int (arI_den _ _ _ _) (wrap_has _ _)⟩
    case h_8 => subst hc; exact ⟨.int k (arD .and k e.den e'.den), fun w' => by simp [binOp, Op.intBits, arD], ra_int (arI_den _ _ _ _) (wrap_has _ _)⟩
    case h_9 => subst hc; exact ⟨.int k (arD .or k e.den e'.den), fun w' => by simp [binOp, Op.intBits, arD], ra_int (arI_den _ _ _ _) (wrap_has _ _)⟩
    case h_10 => subst hc; exact ⟨.int k (arD .xor k e.den e'.den), fun w' => by simp [binOp, Op.intBits, arD], ra_int (arI_den _ _ _ _) (wrap_has _ _)⟩
    case h_11 => subst hc; exact ⟨.int k (arD .andNot k e.den e'.den), fun w' => by simp [binOp, Op.intBits, arD], ra_int (arI_den _ _ _ _) (wrap_has _ _)⟩
    case h_12 => subst hc; exact ⟨.bool (cmpD .eql e.den e'.den), fun w' => by simp [binOp, Op.intCmp, cmpD], ra_bool (cmpI_den _ _ _)⟩
    case h_13 => subst hc; exact ⟨.bool (cmpD .neq e.den e'.den), fun w' => by simp [binOp, Op.intCmp, cmpD], ra_bool (cmpI_den _ _ _)⟩
    case h_14 => subst hc; exact ⟨.bool (cmpD .lss e.den e'.den), fun w' => by simp [binOp, Op.intCmp, cmpD], ra_bool (cmpI_den _ _ _)⟩
    case h_15 => subst hc; exact ⟨.bool (cmpD .leq e.den e'.den), fun w' => by simp [binOp, Op.intCmp, cmpD], ra_bool (cmpI_den _ _ _)⟩
    case h_16 => subst hc; exact ⟨.bool (cmpD .gtr e.den e'.den), fun w' => by simp [binOp, Op.intCmp, cmpD], ra_bool (cmpI_den _ _ _)⟩
    case h_17 => subst hc; exact ⟨.bool (cmpD .geq e.den e'.den), fun w' => by simp [binOp, Op.intCmp, cmpD], ra_bool (cmpI_den _ _ _)⟩
  · rename_i e e'
    obtain ⟨rfl, hka⟩ := RA.of_str ha
    obtain ⟨rfl, hkb⟩ := RA.of_str hb
    have hg : ∀ w', (eqGuard op t ox oy (.string ⟨e.den.toArray⟩) (.string ⟨e'.den.toArray⟩)).run P w' = .ok () w' := by
      intro w'; unfold eqGuard; cases op <;> rfl
    have hl : ∀ l : List UInt8, (ByteArray.mk l.toArray).toList = l := fun l => ByteArray.toList_mk l
    simp only [Sem.run_bind, hg, Result.andThen_ok]
    split at h <;> simp only [reduceCtorEq, Option.some.injEq] at h <;> subst h
    · exact ⟨.bool (e.den == e'.den), fun w' => by simp [binOp, Op.stringOp, hl], ra_bool (by simp [BE.den])⟩
    · exact ⟨.bool (!(e.den == e'.den)), fun w' => by simp [binOp, Op.stringOp, hl], ra_bool (by simp [BE.den])⟩
  · cases h

theorem divV_run {P : Program} {w : World} {F : Nat → Prop} {β : Bt} {o : Own} {op : BinOp} {t : TypeId} {ox oy : Operand} {x y : V} {a b : Value} {q : BE} {z : V}
    (ha : RA w F β o a x) (hb : RA w F β o b y) (h : divV op x y = some (q, z)) (hq : q.den = true) :
    ∃ v, (∀ w', (do eqGuard op t ox oy a b; binOp op t a b : Sem Value).run P w' = .ok v w') ∧ RA w F β o v z := by
  unfold divV at h
  split at h
  · rename_i k e k' e'
    obtain ⟨rfl, hka⟩ := RA.of_int ha
    obtain ⟨rfl, hkb⟩ := RA.of_int hb
    have hg : ∀ w', (eqGuard op t ox oy (.int k e.den) (.int k' e'.den)).run P w' = .ok () w' := by
      intro w'; unfold eqGuard; cases op <;> rfl
    simp only [Sem.run_bind, hg, Result.andThen_ok]
    split at h
    · obtain ⟨hc, h⟩ := bif_some h
      simp only [Prod.mk.injEq] at h
      obtain ⟨rfl, rfl⟩ := h
      simp only [keq, decide_eq_true_eq] at hc
      subst hc
      have hn : e'.den ≠ 0 := by simpa [cmpI_den, cmpD, IE.den] using hq
      exact ⟨.int k (arD .quo k e.den e'.den), fun w' => by simp [binOp, Op.intDiv, hn, arD], ra_int (arI_den _ _ _ _) (wrap_has _ _)⟩
    · obtain ⟨hc, h⟩ := bif_some h
      simp only [Prod.mk.injEq] at h
      obtain ⟨rfl, rfl⟩ := h
      simp only [keq, decide_eq_true_eq] at hc
      subst hc
      have hn : e'.den ≠ 0 := by simpa [cmpI_den, cmpD, IE.den] using hq
      exact ⟨.int k (arD .rem k e.den e'.den), fun w' => by simp [binOp, Op.intDiv, hn, arD], ra_int (arI_den _ _ _ _) (tmod_has hka)⟩
    · simp only [Option.some.injEq, Prod.mk.injEq] at h
      obtain ⟨rfl, rfl⟩ := h
      have hn : 0 ≤ e'.den := by simpa [cmpI_den, cmpD, IE.den] using hq
      have hn' : ¬ (e'.den < 0) := by omega
      exact ⟨.int k (shD .shl k e.den e'.den), fun w' => by simp [binOp, Op.shift, hn', shD], ra_int (by simp [IE.den]) (wrap_has _ _)⟩
    · simp only [Option.some.injEq, Prod.mk.injEq] at h
      obtain ⟨rfl, rfl⟩ := h
      have hn : 0 ≤ e'.den := by simpa [cmpI_den, cmpD, IE.den] using hq
      have hn' : ¬ (e'.den < 0) := by omega
      exact ⟨.int k (shD .shr k e.den e'.den), fun w' => by simp [binOp, Op.shift, hn', shD], ra_int (by simp [IE.den]) (fdiv_pow_has _ hka)⟩
    · cases h
  · cases h

end Go.Vg
/- Operations that only compute, and read: which value they have, and that they have it. -/
namespace Go.Vg
open Go

def loadX (ti : TI) (cs : List V) : Option V :=
  bif ti.d.isAgg then (bif (leN ti.sz cs.length) then some (.agg (cs.take ti.sz)) else none) else match cs with
    | c :: _ => some c
    | [] => none

def nthf : List (Nat × TypeId) → Nat → Option (Nat × TypeId)
  | [], _ => none
  | a :: _, 0 => some a
  | _ :: r, n + 1 => nthf r n
theorem nthf_eq (l : List (Nat × TypeId)) (n : Nat) : nthf l n = l[n]? := by
  induction l generalizing n with
  | nil => simp [nthf]
  | cons a r ih => cases n <;> simp [nthf, ih]
def nthv : List V → Nat → Option V
  | [], _ => none
  | a :: _, 0 => some a
  | _ :: r, n + 1 => nthv r n
theorem nthv_eq (l : List V) (n : Nat) : nthv l n = l[n]? := by
  induction l generalizing n with
  | nil => simp [nthv]
  | cons a r ih => cases n <;> simp [nthv, ih]

def lenV (o : Own) (x : V) : Option V :=
  match x with
  | .sl _ _ l => some (.int .i64 (.len l))
  | .sls _ vs => some (.int .i64 (.lit (Int.ofNat vs.length)))
  | .nilsl => some (.int .i64 (.lit 0))
  | .osl id => match olook o id with
    | some (.arr _ _ _ _ l) => some (.int .i64 (.len l))
    | _ => none
  | .view _ _ n => some (.int .i64 n)
  | _ => none

def lenS (x : V) : Option V :=
  match x with
  | .str (.lit l) => some (.int .i64 (.lit (Int.ofNat l.length)))
  | .str s => some (.int .i64 (.slen s))
  | _ => none

def setAt (cs : List V) (off : Nat) : List V → List V
  | [] => cs
  | v :: r => setAt (cs.set off v) (off + 1) r

def minV (mn : Bool) (x y : V) : Option V :=
  match x, y with
  | .int k a, .int k' b => bif keq k k' then some (.int k (bif mn then .mn a b else .mx a b)) else none
  | _, _ => none

def isPlain : V → Bool
  | .int _ _ => true
  | .bool _ => true
  | .str _ => true
  | .sl _ _ _ => true
  | .sls _ _ => true
  | .nilsl => true
  | .osl _ => true
  | .view _ _ _ => true
  | .ptr _ _ => true
  | .fn _ _ _ => true
  | .nilptr => true
  | .nilfn => true
  | _ => false

def andB (a b : BE) : BE :=
  match b with
  | .lit true => a
  | b => .and a b
def eqA : List SK → List V → List V → Option BE
  | k :: ks, x :: r, y :: q => match k, x, y with
    | .i, .int k a, .int k' b => bif keq k k' then (match eqA ks r q with
      | some e => some (andB (cmpI .eql a b) e)
      | none => none) else none
    | .b, .bool a, .bool b => (match eqA ks r q with
      | some e => some (andB (.beq a b) e)
      | none => none)
    | .s, .str a, .str b => (match eqA ks r q with
      | some e => some (andB (.seq a b) e)
      | none => none)
    | _, _, _ => none
  | [], [], [] => some (.lit true)
  | _, _, _ => none
/-- Equality that goes by the type. -/
def eqB (c : Ctx) (t : TypeId) (x y : V) : Option BE :=
  match tlook c.T t, x, y with
  | some ⟨.bool, _, _, _⟩, .bool a, .bool b => some (.beq a b)
  | some ⟨.fn, _, _, _⟩, .fn _ _ _, .nilfn => some (.lit false)
  | some ⟨.fn, _, _, _⟩, .nilfn, .nilfn => some (.lit true)
  | some ⟨.slice _, _, _, _⟩, .nilsl, .nilsl => some (.lit true)
  | some ⟨.ptr _, _, _, _⟩, .ptr _ _, .nilptr => some (.lit false)
  | some ⟨.ptr _, _, _, _⟩, .rptr _, .nilptr => some (.lit false)
  | some ⟨.ptr _, _, _, _⟩, .nilptr, .nilptr => some (.lit true)
  | some ⟨.struct _, _, _, _⟩, .agg xs, .agg ys => (match elook c.E t with
    | some ks => eqA ks xs ys
    | none => none)
  | some ⟨.arr _ _, _, _, _⟩, .agg xs, .agg ys => (match elook c.E t with
    | some ks => eqA ks xs ys
    | none => none)
  | _, _, _ => none
def eqV (c : Ctx) (op : BinOp) (t : TypeId) (x y : V) : Option V :=
  match op with
  | .eql => (match eqB c t x y with
    | some b => some (.bool b)
    | none => none)
  | .neq => (match eqB c t x y with
    | some b => some (.bool (notB b))
    | none => none)
  | _ => none

/-- The value of an operation that only computes. 'im': which guards hold. -/
def pureV (c : Ctx) (e : Env) (o : Own) (im : List (Nat × Bool)) (op : Op) : Option V :=
  match op with
  | .move x => some (res e im (evalO c e x))
  | .assign x => some (res e im (evalO c e x))
  | .pick cd a b => match res e im (evalO c e cd) with
    | .bool (.lit true) => some (res e im (evalO c e a))
    | .bool (.lit false) => some (res e im (evalO c e b))
    | .bool q => match cd with
      | .tmp t => match res e ((t, true) :: im) (evalO c e a), res e ((t, false) :: im) (evalO c e b) with
        | .bool x, .bool y => some (.bool (iteB q x y))
        | .int k x, .int k' y => bif keq k k' then some (.int k (.ite q x y)) else none
        | _, _ => none
      | _ => none
    | _ => none
  | .binOp op t x y _ => (match binV op (res e im (evalO c e x)) (res e im (evalO c e y)) with
    | some v => some v
    | none => eqV c op t (res e im (evalO c e x)) (res e im (evalO c e y)))
  | .unOp op _ x => match op, res e im (evalO c e x) with
    | .neg, .int k a => some (.int k (arI .sub k (.lit 0) a))
    | .not, .bool b => some (.bool (notB b))
    | _, _ => none
  | .convert s d x => match tlook c.T s, tlook c.T d, res e im (evalO c e x) with
    | some _, some ⟨.int k, _, _, _⟩, .int k' a => some (.int k (wrapI k k' a))
    | some _, some ⟨.str, _, _, _⟩, .str a => some (.str a)
    | _, _, _ => none
  | .field t x i => match tlook c.T t, res e im (evalO c e x) with
    | some ⟨.struct fs, _, _, _⟩, .agg cs => match nthf fs i with
      | some (off, ft) => match tlook c.T ft with
        | some ti => loadX ti (cs.drop off)
        | none => none
      | none => none
    | _, _ => none
  | .extract x i => match res e im (evalO c e x) with
    | .tup vs => nthv vs i
    | _ => none
  | .call ⟨.builtin .len, ⟨[x]⟩, ⟨[t]⟩⟩ => match tlook c.T t with
    | some ⟨.slice _, _, _, _⟩ => lenV o (res e im (evalO c e x))
    | some ⟨.str, _, _, _⟩ => lenS (res e im (evalO c e x))
    | _ => none
  | .call ⟨.builtin .min, ⟨[x, y]⟩, _⟩ => minV true (res e im (evalO c e x)) (res e im (evalO c e y))
  | .call ⟨.builtin .max, ⟨[x, y]⟩, _⟩ => minV false (res e im (evalO c e x)) (res e im (evalO c e y))
  | .load t x => match tlook c.T t, res e im (evalO c e x) with
    | some ti, .rptr cs => loadX ti cs
    | some ti, .ptr id off => match olook o id with
      | some (.var cs) => loadX ti (cs.drop off)
      | _ => none
    | _, _ => none
  | .fieldAddr t x i => match tlook c.T t, res e im (evalO c e x) with
    | some ⟨.struct fs, _, _, _⟩, .rptr cs => match nthf fs i with
      | some (off, ft) => match tlook c.T ft with
        | some ti => bif (ltN 0 ti.sz) && (ltN off cs.length) then some (.rptr (cs.drop off)) else none
        | none => none
      | none => none
    | some ⟨.struct fs, _, _, _⟩, .ptr id o' => match nthf fs i with
      | some (off, ft) => match tlook c.T ft with
        | some ti => bif (ltN 0 ti.sz) then some (.ptr id (o' + off)) else none
        | none => none
      | none => none
    | some ⟨.struct fs, _, _, _⟩, .eptr id ix o' => match nthf fs i with
      | some (off, ft) => match tlook c.T ft with
        | some ti => bif (ltN 0 ti.sz) then some (.eptr id ix (o' + off)) else none
        | none => none
      | none => none
    | _, _ => none
  | .makeFunc (.func f) ⟨first⟩ ⟨cap⟩ => some (.fn f (first.map fun x => res e im (evalO c e x)) (cap.map fun x => res e im (evalO c e x)))
  | .nilCheck x => match res e im (evalO c e x) with
    | .ptr id off => some (.ptr id off)
    | .rptr cs => some (.rptr cs)
    | _ => none
  | _ => none

end Go.Vg
