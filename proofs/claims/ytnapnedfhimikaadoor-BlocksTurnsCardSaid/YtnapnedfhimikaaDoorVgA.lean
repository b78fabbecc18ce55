/- The values of the layer: expressions, values, types' table; what they mean; how they lie in memory. -/
import Derived.Orders
import Derived.Laws.AppendOwn
import Derived.Below
import Derived.Tactics
import GoSem.Claims
set_option maxRecDepth 4000
set_option linter.all false
set_option linter.unusedVariables false
set_option linter.unusedSimpArgs false
namespace Go.Vg
open Go

def eqN (a b : Nat) : Bool := decide (a = b)
def ltN (a b : Nat) : Bool := decide (a < b)
def leN (a b : Nat) : Bool := decide (a ≤ b)
theorem eqN_true {a b : Nat} (h : eqN a b = true) : a = b := of_decide_eq_true h
@[simp] theorem eqN_self (a : Nat) : eqN a a = true := by simp [eqN]
@[simp] theorem ltN_iff {a b : Nat} : ltN a b = true ↔ a < b := by simp [ltN]
@[simp] theorem leN_iff {a b : Nat} : leN a b = true ↔ a ≤ b := by simp [leN]
theorem leN_true {a b : Nat} (h : leN a b = true) : a ≤ b := of_decide_eq_true h

inductive SE : Type
  | lit (l : List UInt8) | v (l : List UInt8) | cat (a b : SE)
def SE.den : SE → List UInt8
  | .lit l => l | .v l => l | .cat a b => a.den ++ b.den

mutual
inductive IE : Type 1
  | lit (n : Int) | v (n : Int) | nat (n : Nat) | byte (b : UInt8)
  | len {α : Type} (l : List α)
  | slen (s : SE)
  | ar (o : BinOp) (k : IntKind) (a b : IE)
  | sh (o : BinOp) (k : IntKind) (a b : IE)
  | wrap (k : IntKind) (a : IE)
  | ite (c : BE) (a b : IE)
  | mn (a b : IE) | mx (a b : IE)
inductive BE : Type 1
  | lit (b : Bool) | v (b : Bool)
  | cmp (o : BinOp) (a b : IE)
  | not (a : BE) | ite (c a b : BE) | and (a b : BE)
  | seq (a b : SE) | beq (a b : BE)
end

def arD (o : BinOp) (k : IntKind) (x y : Int) : Int :=
  match o with
  | .add => k.wrap (x + y)
  | .sub => k.wrap (x - y)
  | .mul => k.wrap (x * y)
  | .quo => k.wrap (x.tdiv y)
  | .rem => x.tmod y
  | .and => k.wrap (BitVec.ofInt k.bits x &&& BitVec.ofInt k.bits y).toNat
  | .or => k.wrap (BitVec.ofInt k.bits x ||| BitVec.ofInt k.bits y).toNat
  | .xor => k.wrap (BitVec.ofInt k.bits x ^^^ BitVec.ofInt k.bits y).toNat
  | .andNot => k.wrap (BitVec.ofInt k.bits x &&& ~~~BitVec.ofInt k.bits y).toNat
  | _ => 0
def shD (o : BinOp) (k : IntKind) (x y : Int) : Int :=
  match o with
  | .shl => k.wrap (x * 2 ^ (min y.toNat k.bits))
  | .shr => x.fdiv (2 ^ (min y.toNat k.bits))
  | _ => 0
def cmpD (o : BinOp) (x y : Int) : Bool :=
  match o with
  | .eql => x == y
  | .neq => x != y
  | .lss => decide (x < y)
  | .leq => decide (x ≤ y)
  | .gtr => decide (x > y)
  | .geq => decide (x ≥ y)
  | _ => false

mutual
def IE.den : IE → Int
  | .lit n => n | .v n => n | .nat n => n | .byte b => b.toNat
  | .len l => l.length
  | .slen s => s.den.length
  | .ar o k a b => arD o k a.den b.den
  | .sh o k a b => shD o k a.den b.den
  | .wrap k a => k.wrap a.den
  | .ite c a b => if c.den = true then a.den else b.den
  | .mn a b => if b.den < a.den then b.den else a.den
  | .mx a b => if b.den > a.den then b.den else a.den
def BE.den : BE → Bool
  | .lit b => b | .v b => b
  | .cmp o a b => cmpD o a.den b.den
  | .not a => !a.den
  | .ite c a b => if c.den = true then a.den else b.den
  | .and a b => a.den && b.den
  | .seq a b => a.den == b.den
  | .beq a b => a.den == b.den
end

inductive V : Type 1
  | int (k : IntKind) (e : IE)
  | bool (b : BE)
  | str (s : SE)
  | sl (sz : Nat) {α : Type} (f : α → V) (l : List α)
  | sls (sz : Nat) (vs : List V)
  | nilsl
  | agg (cs : List V)
  | tup (vs : List V)
  | osl (id : Nat)
  | view (id : Nat) (lo n : IE)
  | ptr (id off : Nat)
  | eptr (id : Nat) (i : IE) (off : Nat)
  | rptr (cells : List V)
  | fn (f : FuncId) (first captured : List V)
  | nilptr | nilfn
  | mp (id : Nat)
  | opt (t : Nat) (b : Bool) (v : V)
  | nb (b : Bool)
  | junk

/-- A value's cells. -/
def cells : V → List V
  | .agg cs => cs
  | v => [v]

/-- A slice's elements: how many cells one has, and which they are. -/
def V.elems : V → Option (Nat × List V)
  | .sl sz f l => some (sz, l.map f)
  | .sls sz vs => some (sz, vs)
  | .nilsl => some (0, [])
  | _ => none

inductive Ent : Type 1
  | var (cells : List V)
  | arr (fx : Bool) (e : TypeId) (sz : Nat) {α : Type} (f : α → V) (l : List α)

abbrev Env := List (Nat × V)
abbrev Own := List (Nat × Ent)
structure St : Type 1 where
  e : Env
  o : Own
  /-- What was turned since the mark. -/
  t : List Nat

def look : Env → Nat → V
  | [], _ => .junk
  | (k, v) :: r, n => bif (eqN k n) then v else look r n
def olook : Own → Nat → Option Ent
  | [], _ => none
  | (k, v) :: r, n => bif (eqN k n) then some v else olook r n

/-- No slice is longer. -/
def LIM : Nat := 9223372036854775807

mutual
/-- What is known of a value by itself: its numbers are of their kinds. -/
def V.wf : V → Prop
  | .int k e => k.has e.den
  | .sl _ f l => l.length ≤ LIM ∧ ∀ p, p ∈ l → V.wf (f p)
  | .sls _ vs => V.wfl vs
  | .agg cs => V.wfl cs
  | .tup vs => V.wfl vs
  | .rptr cs => V.wfl cs
  | _ => True
def V.wfl : List V → Prop
  | [] => True
  | x :: r => V.wf x ∧ V.wfl r
end

theorem V.wfl_iff (l : List V) : V.wfl l ↔ ∀ x, x ∈ l → V.wf x := by
  induction l with
  | nil => simp [V.wfl]
  | cons a r ih => simp [V.wfl, ih]

/-! ### Memory -/

/-- Data that nobody writes: 'F': the blocks that it has no part in. -/
inductive RD (w : World) (F : Nat → Prop) : Value → V → Prop
  | int (k : IntKind) (e : IE) (n : Int) (h : e.den = n) (hk : k.has n) : RD w F (.int k n) (.int k e)
  | bool (e : BE) (b : Bool) (h : e.den = b) : RD w F (.bool b) (.bool e)
  | str (e : SE) (s : ByteArray) (h : e.den = s.data.toList) (hl : e.den.length ≤ LIM) : RD w F (.string s) (.str e)
  | nilsl (x : V) (sz : Nat) (hx : x.elems = some (sz, [])) : RD w F (.slice none 0 0) x
  | slice (x : V) (sz : Nat) (es : List V) (hx : x.elems = some (sz, es)) (hnn : x ≠ .nilsl) (a : Addr) (c : Nat) (hc : es.length ≤ c) (hl : es.length ≤ LIM) (hs : es ≠ [] → a.spot = none)
      (hF : es ≠ [] → ¬ F a.block) (hb : es ≠ [] → a.block < w.heap.size)
      (hsz : ∀ (i : Nat) (e : V), es[i]? = some e → (cells e).length = sz)
      (cv : Nat → Nat → Value)
      (hone : ∀ (i : Nat) (e : V), es[i]? = some e → ∀ (j : Nat) (y : V), (cells e)[j]? = some y → (cv i j).oneCell' = true)
      (hcv : ∀ (i : Nat) (e : V), es[i]? = some e → ∀ (j : Nat) (y : V), (cells e)[j]? = some y → w.cell? ⟨a.block, a.off + i * sz + j, none⟩ = some (cv i j))
      (hr : ∀ (i : Nat) (e : V), es[i]? = some e → ∀ (j : Nat) (y : V), (cells e)[j]? = some y → RD w F (cv i j) y) : RD w F (.slice (some a) es.length c) x
  | agg (cs : Array Value) (xs : List V) (hl : cs.size = xs.length) (hone : ∀ c, c ∈ cs → c.oneCell' = true)
      (h : ∀ (i : Nat) (c : Value) (x : V), cs[i]? = some c → xs[i]? = some x → RD w F c x) : RD w F (.agg cs) (.agg xs)
  | tup (cs : Array Value) (xs : List V) (hl : cs.size = xs.length)
      (h : ∀ (i : Nat) (c : Value) (x : V), cs[i]? = some c → xs[i]? = some x → RD w F c x) : RD w F (.tuple cs) (.tup xs)
  | nilptr : RD w F (.pointer none) .nilptr
  | nilfn : RD w F .nilFunc .nilfn
  | fn (f : FuncId) : RD w F (.func (.func f) #[] #[]) (.fn f [] [])
  | rptr (a : Addr) (xs : List V) (hs : a.spot = none) (hF : ¬ F a.block) (hb : a.block < w.heap.size) (cv : Nat → Value)
      (hone : ∀ (j : Nat) (y : V), xs[j]? = some y → (cv j).oneCell' = true)
      (hcv : ∀ (j : Nat) (y : V), xs[j]? = some y → w.cell? ⟨a.block, a.off + j, none⟩ = some (cv j))
      (hr : ∀ (j : Nat) (y : V), xs[j]? = some y → RD w F (cv j) y) : RD w F (.pointer (some a)) (.rptr xs)
  | junk (v : Value) : RD w F v .junk

/-- Where nothing turned that it has part in, data are what they were. -/
theorem RD.carry {w w' : World} {F F' : Nat → Prop} (h : ∀ b, b < w.heap.size → ¬ F b → w'.heap[b]? = w.heap[b]? ∧ ¬ F' b ∧ b < w'.heap.size) {v : Value} {x : V} (hv : RD w F v x) : RD w' F' v x := by
  induction hv with
  | int k e n h hk => exact .int k e n h hk
  | bool e b h => exact .bool e b h
  | str e s h hl => exact .str e s h hl
  | nilsl x sz hx => exact .nilsl x sz hx
  | slice x sz es hx hnn a c hc hl hs hF hb hsz cv hone hcv hr ih =>
    refine .slice x sz es hx hnn a c hc hl hs (fun hne => (h _ (hb hne) (hF hne)).2.1) (fun hne => (h _ (hb hne) (hF hne)).2.2) hsz cv hone (fun i e hi j y hj => ?_) ih
    have hne : es ≠ [] := by intro he; simp [he] at hi
    rw [← hcv i e hi j y hj]
    simp only [World.cell?]
    rw [(h _ (hb hne) (hF hne)).1]
  | agg cs xs hl hone _ ih => exact .agg cs xs hl hone ih
  | tup cs xs hl _ ih => exact .tup cs xs hl ih
  | nilptr => exact .nilptr
  | nilfn => exact .nilfn
  | fn f => exact .fn f
  | rptr a xs hs hF hb cv hone hcv hr ih =>
    refine .rptr a xs hs (h _ hb hF).2.1 (h _ hb hF).2.2 cv hone (fun j y hj => ?_) ih
    rw [← hcv j y hj]
    simp only [World.cell?]
    rw [(h _ hb hF).1]
  | junk v => exact .junk v

theorem mem_of_getElem? {α : Type _} {l : List α} {x : α} (h : x ∈ l) : ∃ i : Nat, l[i]? = some x := List.mem_iff_getElem?.1 h

theorem V.wf_of_cells {x : V} (h : ∀ (j : Nat) (y : V), (cells x)[j]? = some y → V.wf y) : V.wf x := by
  cases x with
  | agg cs =>
    simp only [V.wf, V.wfl_iff]
    intro y hy
    obtain ⟨j, hj⟩ := mem_of_getElem? hy
    exact h j y hj
  | _ => exact h 0 _ (by simp [cells])

theorem V.wf_of_elems {x : V} {sz : Nat} {es : List V} (hx : x.elems = some (sz, es)) (hl : es.length ≤ LIM) (h : ∀ (i : Nat) (e : V), es[i]? = some e → V.wf e) : V.wf x := by
  cases x <;> simp only [V.elems, Option.some.injEq, Prod.mk.injEq, reduceCtorEq] at hx
  case sl sz' α f l =>
    obtain ⟨rfl, rfl⟩ := hx
    simp only [V.wf]
    refine ⟨by simpa using hl, fun p hp => ?_⟩
    obtain ⟨j, hj⟩ := mem_of_getElem? hp
    exact h j (f p) (by simp [hj])
  case sls sz' vs =>
    obtain ⟨rfl, rfl⟩ := hx
    simp only [V.wf, V.wfl_iff]
    intro y hy
    obtain ⟨j, hj⟩ := mem_of_getElem? hy
    exact h j y hj
  case nilsl => simp [V.wf]

theorem RD.wf {w : World} {F : Nat → Prop} {v : Value} {x : V} (h : RD w F v x) : V.wf x := by
  induction h with
  | int k e n h hk => simpa [V.wf, h] using hk
  | bool e b h => simp [V.wf]
  | str e s h hl => simp [V.wf]
  | nilsl x sz hx => exact V.wf_of_elems hx (by simp) (by simp)
  | slice x sz es hx hnn a c hc hl hs hF hb hsz cv hone hcv hr ih => exact V.wf_of_elems hx hl fun i e hi => V.wf_of_cells fun j y hj => ih i e hi j y hj
  | agg cs xs hl hone _ ih =>
    simp only [V.wf, V.wfl_iff]
    intro y hy
    obtain ⟨j, hj⟩ := mem_of_getElem? hy
    have hlt : j < cs.size := by rw [hl]; exact (List.getElem?_eq_some_iff.1 hj).1
    exact ih j _ y (Array.getElem?_eq_getElem hlt) hj
  | tup cs xs hl _ ih =>
    simp only [V.wf, V.wfl_iff]
    intro y hy
    obtain ⟨j, hj⟩ := mem_of_getElem? hy
    have hlt : j < cs.size := by rw [hl]; exact (List.getElem?_eq_some_iff.1 hj).1
    exact ih j _ y (Array.getElem?_eq_getElem hlt) hj
  | nilptr => simp [V.wf]
  | nilfn => simp [V.wf]
  | fn f => simp [V.wf]
  | rptr a xs hs hF hb cv hone hcv hr ih =>
    simp only [V.wf, V.wfl_iff]
    intro y hy
    obtain ⟨j, hj⟩ := mem_of_getElem? hy
    exact ih j y hj
  | junk v => simp [V.wf]

/-- In which block an own thing lies (none: an empty list that has none). -/
abbrev Bt := Nat → Option Nat

/-- Values while a function runs. -/
inductive RA (w : World) (F : Nat → Prop) (β : Bt) (o : Own) : Value → V → Prop
  | d (v : Value) (x : V) (h : RD w F v x) : RA w F β o v x
  | osl (id b : Nat) (hb : β id = some b) (fx : Bool) (e : TypeId) (sz : Nat) {α : Type} (f : α → V) (l : List α) (c : Nat) (h : olook o id = some (.arr fx e sz f l)) (hc : l.length ≤ c) (hm : c ≤ maxLen) (hl : l.length ≤ LIM)
      (cur : Array Value) (hcur : w.heap[b]? = some (.cells cur e (0, 0))) (hcap : cur.size = c * sz) : RA w F β o (.slice (some ⟨b, 0, none⟩) l.length c) (.osl id)
  | osl0 (id : Nat) (fx : Bool) (e : TypeId) (sz : Nat) {α : Type} (f : α → V) (h : olook o id = some (.arr fx e sz f [])) : RA w F β o (.slice none 0 0) (.osl id)
  | view (id b : Nat) (hb : β id = some b) (fx : Bool) (e : TypeId) (sz : Nat) {α : Type} (f : α → V) (l : List α) (c : Nat) (h : olook o id = some (.arr fx e sz f l)) (hc : l.length ≤ c) (hm : c ≤ maxLen) (hl : l.length ≤ LIM)
      (cur : Array Value) (hcur : w.heap[b]? = some (.cells cur e (0, 0))) (hcap : cur.size = c * sz) (lo n : IE) (i m : Nat) (hlo : lo.den = (i : Int)) (hn : n.den = (m : Int)) (him : i + m ≤ l.length) (hpos : 0 < m) : RA w F β o (.slice (some ⟨b, i * sz, none⟩) m (c - i)) (.view id lo n)
  | view0 (id : Nat) (fx : Bool) (e : TypeId) (sz : Nat) {α : Type} (f : α → V) (l : List α) (h : olook o id = some (.arr fx e sz f l)) (lo n : IE) (i : Nat) (hlo : lo.den = (i : Int)) (hn : n.den = 0) (hi : i ≤ l.length) (ad : Option Addr) (c : Nat) : RA w F β o (.slice ad 0 c) (.view id lo n)
  | ptr (id off b : Nat) (hb : β id = some b) (cs : List V) (h : olook o id = some (.var cs)) : RA w F β o (.pointer (some ⟨b, off, none⟩)) (.ptr id off)
  | eptr (id off b : Nat) (hb : β id = some b) (fx : Bool) (e : TypeId) (sz : Nat) (i : IE) (n : Nat) {α : Type} (f : α → V) (l : List α) (h : olook o id = some (.arr fx e sz f l)) (hi : i.den = (n : Int)) (hn : n < l.length) :
      RA w F β o (.pointer (some ⟨b, n * sz + off, none⟩)) (.eptr id i off)
  | fn (f : FuncId) (fs cs : Array Value) (xs ys : List V) (hf : fs.size = xs.length) (hc : cs.size = ys.length)
      (h1 : ∀ (i : Nat) (c : Value) (x : V), fs[i]? = some c → xs[i]? = some x → RA w F β o c x)
      (h2 : ∀ (i : Nat) (c : Value) (x : V), cs[i]? = some c → ys[i]? = some x → RA w F β o c x) : RA w F β o (.func (.func f) fs cs) (.fn f xs ys)
  | agg (cs : Array Value) (xs : List V) (hl : cs.size = xs.length) (hone : ∀ c, c ∈ cs → c.oneCell' = true)
      (h : ∀ (i : Nat) (c : Value) (x : V), cs[i]? = some c → xs[i]? = some x → RA w F β o c x) : RA w F β o (.agg cs) (.agg xs)
  | tup (cs : Array Value) (xs : List V) (hl : cs.size = xs.length)
      (h : ∀ (i : Nat) (c : Value) (x : V), cs[i]? = some c → xs[i]? = some x → RA w F β o c x) : RA w F β o (.tuple cs) (.tup xs)
  | junk (v : Value) : RA w F β o v .junk

/-- An own thing is as it is told. -/
def EntOk (w : World) (F : Nat → Prop) (β : Bt) (o : Own) (id : Nat) : Ent → Prop
  | .var cs => ∃ b c t, β id = some b ∧ F b ∧ w.heap[b]? = some (.cells c t (0, 0)) ∧ c.size = cs.length ∧ (∀ v, v ∈ c → v.oneCell' = true) ∧
      ∀ (i : Nat) (v : Value) (x : V), c[i]? = some v → cs[i]? = some x → RA w F β o v x
  | .arr _ e sz f l => (β id = none ∧ l = []) ∨ ∃ b cur, β id = some b ∧ F b ∧ w.heap[b]? = some (.cells cur e (0, 0)) ∧ l.length * sz ≤ cur.size ∧ (∀ v, v ∈ cur → v.oneCell' = true) ∧
      ∀ (i : Nat) p, l[i]? = some p → (cells (f p)).length = sz ∧ ∀ (j : Nat) (y : V), (cells (f p))[j]? = some y → ∃ cv, cur[i * sz + j]? = some cv ∧ RD w F cv y

structure OwnOk (w : World) (F : Nat → Prop) (β : Bt) (o : Own) : Prop where
  ent : ∀ id ent, olook o id = some ent → EntOk w F β o id ent
  inj : ∀ id id' b ent ent', olook o id = some ent → olook o id' = some ent' → β id = some b → β id' = some b → id = id'

/-- Nothing was put out, and the draws went on. -/
structure OutLe (w w' : World) : Prop where
  out : w'.output = w.output
  drawn : w.drawn ≤ w'.drawn
theorem OutLe.refl (w : World) : OutLe w w := ⟨rfl, Nat.le_refl _⟩
theorem OutLe.trans {a b c : World} (h : OutLe b c) (k : OutLe a b) : OutLe a c := ⟨h.out.trans k.out, Nat.le_trans k.drawn h.drawn⟩
/-- What a call may not touch is as it was: blocks that are not 'S' are the same. -/
structure Keep (S : Nat → Prop) (w w' : World) : Prop where
  os : w'.os = w.os
  tape : w'.tape = w.tape
  output : OutLe w w'
  size : w.heap.size ≤ w'.heap.size
  block : ∀ b, b < w.heap.size → ¬ S b → w'.heap[b]? = w.heap[b]?

theorem Keep.refl (S : Nat → Prop) (w : World) : Keep S w w := ⟨rfl, rfl, OutLe.refl w, Nat.le_refl _, fun _ _ _ => rfl⟩
theorem Keep.trans {S S' : Nat → Prop} {a b c : World} (h : Keep S a b) (k : Keep S' b c) (hs : ∀ x, x < a.heap.size → S' x → S x) : Keep S a c :=
  ⟨k.os.trans h.os, k.tape.trans h.tape, k.output.trans h.output, Nat.le_trans h.size k.size, fun x hx hn => (k.block x (Nat.lt_of_lt_of_le hx h.size) (fun hs' => hn (hs x hx hs'))).trans (h.block x hx hn)⟩
theorem Keep.mono {S S' : Nat → Prop} {a b : World} (h : Keep S a b) (hs : ∀ x, S x → S' x) : Keep S' a b :=
  ⟨h.os, h.tape, h.output, h.size, fun x hx hn => h.block x hx (fun q => hn (hs x q))⟩

/-- Data are kept where what they avoid holds all that may be written. -/
theorem RD.keep {S F F' : Nat → Prop} {w w' : World} (k : Keep S w w') (hS : ∀ b, S b → F b) (hF : ∀ b, b < w.heap.size → F' b → F b) {v : Value} {x : V} (h : RD w F v x) : RD w' F' v x :=
  h.carry fun b hb hn => ⟨k.block b hb (fun q => hn (hS b q)), fun q => hn (hF b hb q), Nat.lt_of_lt_of_le hb k.size⟩

end Go.Vg
