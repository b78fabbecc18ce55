/- The own layer, part A3: soundness of the conditions of code. -/
import Derived.Test.YtpdklmagncfhaaaDoorA2
import Derived.Laws.Rows
import Derived.Great.BuildSlice
import Derived.Great.FillDense
import Derived.Laws.MakeOwn
import Derived.Deep.AppendSrc
set_option maxRecDepth 4000
set_option linter.all false
set_option linter.unusedVariables false
set_option linter.unusedSimpArgs false
/- The verification conditions: what is to be shown at each operation. -/
namespace Go.Vg
open Go

def byteV (b : UInt8) : V := .int .u8 (.byte b)
def intV (n : Int) : V := .int .i64 (.v n)

/-- What one cell tells, the other tells. -/
def CEq (x y : V) : Prop := ∀ w F v, RD w F v x → RD w F v y
def CEqL (xs ys : List V) : Prop := xs.length = ys.length ∧ ∀ (j : Nat) (x y : V), xs[j]? = some x → ys[j]? = some y → CEq x y
def VEq (a b : V) : Prop := CEqL (cells a) (cells b)

/-- A slice's elements, own or not. -/
def velems (o : Own) (x : V) : Option (Nat × List V) :=
  match x with
  | .osl id => match olook o id with
    | some (.arr _ _ sz f l) => some (sz, l.map f)
    | _ => none
  | .view id lo n => match olook o id with
    | some (.arr _ _ sz f l) => some (sz, ((l.drop lo.den.toNat).take n.den.toNat).map f)
    | _ => none
  | x => x.elems
/-- A slice's elements are these. -/
def News (o : Own) (sz : Nat) {α : Type} (f : α → V) (xs : List α) (x : V) : Prop :=
  ∃ es, velems o x = some (sz, es) ∧ es.length = xs.length ∧ ∀ (i : Nat) (e : V) (p : α), es[i]? = some e → xs[i]? = some p → VEq e (f p)

/-- A text, as a list of its bytes. -/
def u8V (n : Int) : V := .int .u8 (.v n)
def bytesI (l : List UInt8) : List Int := l.map fun b => (b.toNat : Int)
def strL : V → V
  | .str e => .sl 1 u8V (bytesI e.den)
  | x => x
def isStrT (T : Tab) (t : TypeId) : Bool := match tlook T t with
  | some ⟨.str, _, _, _⟩ => true
  | _ => false
/-- A place where the reckoning may rest. -/
inductive Pause (k : Bool → Prop) : Prop
  | mk (h : k true) : Pause k
theorem Pause.go {k : Bool → Prop} (h : Pause k) : k true := by cases h; assumption
/-- What is closed is shown apart. -/
inductive Draw (b : Bool → Bool) (k : Option (List Nat) → Bool → Prop) : Prop
  | mk (T : Option (List Nat)) (h : b true = true) (hk : k T true) : Draw b k
/-- One of two, of which the other one is not reckoned. -/
def cnd {α : Type _} (b : Bool) (x y : Unit → α) : α := match b with
  | true => x ()
  | false => y ()
theorem cnd_eq {α : Type _} (b : Bool) (x y : Unit → α) : cnd b x y = bif b then x () else y () := by cases b <;> rfl
/-- Every sixth one. -/
def six {α : Type _} : List α → Bool
  | _ :: _ :: _ :: _ :: _ :: _ :: r => six r
  | [_, _, _, _, _] => true
  | _ => false
def pz (n : Bool) (k : Unit → Prop) : Prop := cnd n (fun _ => Pause (fun b => bif b then k () else True)) k
theorem pz_go {n : Bool} {k : Unit → Prop} (h : pz n k) : k () := by
  unfold pz cnd at h
  cases n with
  | true => exact Pause.go h
  | false => exact h
inductive Branch (c : BE) (t f : Unit → Prop) : Prop
  | mk (ht : c.den = true → t ()) (hf : c.den = false → f ()) : Branch c t f
inductive Chk (c : BE) (k : Unit → Prop) : Prop
  | mk (h : c.den = true) (hk : k ()) : Chk c k
inductive ElemP {α : Type} (f : α → V) (l : List α) (i : IE) (k : α → Prop) : Prop
  | mk (h0 : 0 ≤ i.den) (h1 : i.den < l.length) (hk : ∀ p, l[i.den.toNat]? = some p → V.wf (f p) → k p) : ElemP f l i k
inductive ElemV (vs : List V) (i : IE) (k : V → Prop) : Prop
  | mk {α : Type} (f : α → V) (l : List α) (hl : vs.length = l.length) (hv : ∀ (i : Nat) (e : V) (p : α), vs[i]? = some e → l[i]? = some p → VEq e (f p)) (h0 : 0 ≤ i.den) (h1 : i.den < vs.length) (hk : ∀ p, l[i.den.toNat]? = some p → k (f p)) : ElemV vs i k
/-- Which of so many an index is. -/
inductive SplitI (i : IE) (n : Nat) (k : Nat → Prop) : Prop
  | mk (j : Nat) (hj : ltN j n = true) (hi : i.den = (j : Int)) (hk : k j) : SplitI i n k
inductive EloadP {α : Type} (f : α → V) (l : List α) (i : IE) (k : α → Prop) : Prop
  | mk (hk : ∀ p, l[i.den.toNat]? = some p → V.wf (f p) → k p) : EloadP f l i k
inductive EstoreP {α : Type} (f : α → V) (l : List α) (i : IE) (off : Nat) (cs : List V) (k : List α → Prop) : Prop
  | mk (hk : ∀ p, l[i.den.toNat]? = some p → V.wf (f p) → ∃ p', CEqL (setAt (cells (f p)) off cs) (cells (f p')) ∧ ∀ l', l' = l.set i.den.toNat p' → k l') : EstoreP f l i off cs k
inductive SubP {α : Type} (l : List α) (lo hi : IE) (k : List α → Prop) : Prop
  | mk (a b : Nat) (ha : lo.den = a) (hb : hi.den = b) (h1 : a ≤ b) (h2 : b ≤ l.length) (hk : ∀ l', l' = (l.drop a).take (b - a) → k l') : SubP l lo hi k
/-- A part of an own list: data from now on, or a view, or all that is left. -/
inductive SubO {α : Type} (l : List α) (lo hi : IE) (kf : List α → Prop) (kv : IE → IE → Prop) (kt : List α → Prop) : Prop
  | freeze (h : SubP l lo hi kf) : SubO l lo hi kf kv kt
  | view (lo' n : IE) (h1 : lo'.den = lo.den) (h2 : n.den = hi.den - lo.den) (h0 : 0 ≤ lo.den) (h3 : lo.den ≤ hi.den) (h4 : hi.den ≤ l.length) (hk : kv lo' n) : SubO l lo hi kf kv kt
  | take (h0 : lo.den = 0) (m : Nat) (hm : hi.den = m) (h4 : m ≤ l.length) (hk : ∀ l', l' = l.take m → kt l') : SubO l lo hi kf kv kt
/-- A part of an own list, as a view, and nothing else. -/
inductive ViewP {α : Type} (l : List α) (lo hi : IE) (k : IE → IE → Prop) : Prop
  | mk (lo' n : IE) (h1 : lo'.den = lo.den) (h2 : n.den = hi.den - lo.den) (h0 : 0 ≤ lo.den) (h3 : lo.den ≤ hi.den) (h4 : hi.den ≤ l.length) (hk : k lo' n) : ViewP l lo hi k
/-- Is a list nil? Of data it is not known, but that it is empty if it is. -/
inductive NilP {α : Type} (l : List α) (k : Bool → Prop) : Prop
  | mk (ht : l = [] → k true) (hf : k false) : NilP l k
inductive CopyP (sz : Nat) (d x : V) (o : Own) (k0 : Unit → Prop) (k : (id : Nat) → Bool → TypeId → (α : Type) → (α → V) → List α → Nat → Prop) : Prop
  | none (sz1 sz2 : Nat) (es es' : List V) (h1 : velems o x = some (sz1, es)) (h2 : velems o d = some (sz2, es')) (h : es = [] ∨ es' = []) (hk : k0 ()) : CopyP sz d x o k0 k
  | some {α : Type} (f : α → V) (l xs : List α) (id : Nat) (fx : Bool) (e : TypeId) (i m q : Nat) (ho : olook o id = some (.arr fx e sz f l)) (hd : (d = .osl id ∧ i = 0 ∧ m = l.length) ∨ ∃ lo n, d = .view id lo n ∧ lo.den = (i : Int) ∧ n.den = (m : Int))
      (hx : News o sz f xs x) (hq : q = min xs.length m) (hpos : 0 < q) (hk : ∀ l', l' = l.take i ++ (xs.take q ++ l.drop (i + q)) → k id fx e α f l' q) : CopyP sz d x o k0 k
/-- A part of an own list is cleared. -/
inductive ClearP (sz : Nat) (zero : List V) (d : V) (o : Own) (k0 : Unit → Prop) (k : (id : Nat) → Bool → TypeId → (α : Type) → (α → V) → List α → Prop) : Prop
  | none (sz' : Nat) (h : velems o d = some (sz', [])) (hk : k0 ()) : ClearP sz zero d o k0 k
  | some {α : Type} (f : α → V) (l : List α) (id : Nat) (fx : Bool) (e : TypeId) (i m : Nat) (z : α) (ho : olook o id = some (.arr fx e sz f l)) (hd : (d = .osl id ∧ i = 0 ∧ m = l.length) ∨ ∃ lo n, d = .view id lo n ∧ lo.den = (i : Int) ∧ n.den = (m : Int))
      (hm : 0 < m) (hz : CEqL zero (cells (f z))) (hk : ∀ l', l' = l.take i ++ (List.replicate m z ++ l.drop (i + m)) → k id fx e α f l') : ClearP sz zero d o k0 k
inductive AppP (bytes sz : Nat) (el : TypeId) (s x : V) (o : Own) (kn : Nat → (α : Type) → (α → V) → List α → Prop) (k : (α : Type) → (α → V) → List α → Prop) : Prop
  | nil {α : Type} (q : Nat) (f : α → V) (xs : List α) (hs : s = .nilsl) (hx : News o sz f xs x) (hb : xs.length * bytes ≤ 140737488355328) (hk : ∀ l', l' = xs → kn q α f l') : AppP bytes sz el s x o kn k
  | own {α : Type} (f : α → V) (l xs : List α) (id : Nat) (hs : s = .osl id) (ho : olook o id = some (.arr false el sz f l)) (hx : News o sz f xs x) (hb : (l.length + xs.length) * bytes ≤ 140737488355328)
      (hk : ∀ l', l' = l ++ xs → k α f l') : AppP bytes sz el s x o kn k
/-- A list of no elements is built. -/
inductive EmptyP (kd : Prop) (k : (α : Type) → (α → V) → Prop) : Prop
  | data (h : kd) : EmptyP kd k
  | own {α : Type} (f : α → V) (h : k α f) : EmptyP kd k
/-- A list is built, as data or as an own one. -/
inductive BuildP (sz : Nat) (vs : List V) (kd : Prop) (k : (α : Type) → (α → V) → List α → Prop) : Prop
  | data (h : kd) : BuildP sz vs kd k
  | own {α : Type} (f : α → V) (l : List α) (hl : vs.length = l.length) (hc : ∀ (i : Nat) (e : V) (p : α), vs[i]? = some e → l[i]? = some p → VEq e (f p)) (hk : ∀ l', l' = l → k α f l') : BuildP sz vs kd k
inductive MakeP (bytes : Nat) (n : IE) (zero : List V) (k : (α : Type) → (α → V) → List α → Prop) : Prop
  | mk {α : Type} (f : α → V) (x : α) (m : Nat) (hn : n.den = m) (hb : m * bytes ≤ 140737488355328) (hm : m ≤ LIM) (hz : CEqL zero (cells (f x))) (hk : ∀ l, l = List.replicate m x → k α f l) : MakeP bytes n zero k
/-- A map with whole numbers as keys: what is found in it, and what it is with an entry more. -/
def mfind {α : Type} : List (Int × α) → Int → Option α
  | [], _ => none
  | (k, p) :: r, i => if k = i then some p else mfind r i
def mput {α : Type} : List (Int × α) → Int → α → List (Int × α)
  | [], i, p => [(i, p)]
  | (k, q) :: r, i, p => if k = i then (k, p) :: r else (k, q) :: mput r i p
def lookV (ok : Bool) (v : V) (b : Bool) : V := match ok with
  | true => .tup [v, .bool (.v b)]
  | false => v
/-- A variable of its own, or one that nobody turns. -/
inductive BoxP (kd ko : Prop) : Prop
  | data (h : kd) : BoxP kd ko
  | own (h : ko) : BoxP kd ko
inductive MkMapP (k : (α : Type) → (α → V) → Prop) : Prop
  | mk {α : Type} (f : α → V) (h : k α f) : MkMapP k
inductive LookP {α : Type} (f : α → V) (l : List (Int × α)) (i : IE) (z : V) (k : α → Bool → Prop) : Prop
  | mk (p0 : α) (hz : CEq z (f p0)) (hk : ∀ p b, p = (mfind l i.den).getD p0 → b = (mfind l i.den).isSome → V.wf (f p) → k p b) : LookP f l i z k
inductive MputP {α : Type} (f : α → V) (l : List (Int × α)) (i : IE) (v : V) (k : List (Int × α) → Prop) : Prop
  | mk (p : α) (hv : CEq v (f p)) (hl : l.length < LIM) (hk : ∀ l', l' = mput l i.den p → k l') : MputP f l i v k
/-- A text out of bytes. -/
def bstr (l : List Int) : List UInt8 := l.map fun n => UInt8.ofNat n.toNat
inductive StrP (o : Own) (x : V) (k : List UInt8 → Prop) : Prop
  | mk (f : Int → V) (xs : List Int) (hx : News o 1 f xs x) (hf : ∀ n, f n = .int .u8 (.v n)) (hk : ∀ bs, bs = bstr xs → k bs) : StrP o x k
/-- Bytes out of a text. -/
inductive BytP (e : SE) (k : List Int → Prop) : Prop
  | mk (hk : ∀ l, l = bytesI e.den → k l) : BytP e k
/-- A text's byte. -/
inductive ElemS (e : SE) (i : IE) (k : UInt8 → Prop) : Prop
  | mk (h0 : 0 ≤ i.den) (h1 : i.den < e.den.length) (hk : ∀ b, e.den[i.den.toNat]? = some b → k b) : ElemS e i k
/-- A part of a text. -/
inductive SubS (e : SE) (lo hi : IE) (k : List UInt8 → Prop) : Prop
  | mk (h0 : 0 ≤ lo.den) (h1 : lo.den ≤ hi.den) (h2 : hi.den ≤ e.den.length) (hk : k ((e.den.drop lo.den.toNat).take (hi.den.toNat - lo.den.toNat))) : SubS e lo hi k
/-- A call. -/
def ACalls (P : Program) (G : Glb) (f : FuncId) (args : List V) (o : Own) (R : V → Own → Prop) : Prop :=
  (∃ fn, P.funcs[f]? = some fn ∧ (fn.name == "runtime.NumGoroutine") = false ∧ fn.body.isNone = false) ∧
  ∀ (w : World) (F : Nat → Prop) (β : Bt) (vs : Array Value), vs.size = args.length → (∀ (i : Nat) (v : Value) (x : V), vs[i]? = some v → args[i]? = some x → RA w F β o v x) → OwnOk w F β o → GlbOk G w F →
    (∀ b, F b → b < w.heap.size) → (∀ id, olook o id = none → β id = none) →
    Calls P f vs w (fun e w' => ∃ v r o' F' β', e = .returned v ∧ R r o' ∧ (∀ b, F b → F' b) ∧ (∀ b, b < w.heap.size → F' b → F b) ∧ (∀ b, F' b → b < w'.heap.size) ∧
      RA w' F' β' o' v r ∧ OwnOk w' F' β' o' ∧ (∀ id, olook o' id = none → β' id = none) ∧ Keep (fun b => ∃ id ent, olook o id = some ent ∧ β id = some b) w w' ∧
      (∀ id ent b, olook o' id = some ent → β' id = some b → w.heap.size ≤ b ∨ ∃ ent', olook o id = some ent' ∧ β id = some b) ∧
      (∀ id ent0 ent, olook o id = some ent0 → olook o' id = some ent → pinned ent0 = true → Same w β o w' β' o' id id))

theorem ACalls.mono {P : Program} {G : Glb} {f : FuncId} {args : List V} {o : Own} {R R' : V → Own → Prop} (h : ACalls P G f args o R) (hr : ∀ r o', R r o' → R' r o') : ACalls P G f args o R' :=
  ⟨h.1, fun w F β vs h1 h2 h3 h4 h5 h6 => (h.2 w F β vs h1 h2 h3 h4 h5 h6).mono fun _ _ ⟨v, r, o', F', β', a, b, c⟩ => ⟨v, r, o', F', β', a, hr _ _ b, c⟩⟩

/-- Own lists seen as data. -/
def sview (o : Own) : Sub := ⟨fun id => match olook o id with
  | some (.arr _ _ sz f l) => .sl sz f l
  | _ => .junk, fun _ _ => .junk, fun _ _ _ => .junk⟩
-- Values without memory.
mutual
def flat : V → Bool
  | .int _ _ => true
  | .bool _ => true
  | .str _ => true
  | .tup vs => flatl vs
  | .agg vs => flatl vs
  | .nilfn => true
  | .nilptr => true
  | _ => false
def flatl : List V → Bool
  | [] => true
  | x :: r => flat x && flatl r
end
-- Which own lists a value leans on.
mutual
def oslIds : V → List Nat
  | .osl id => [id]
  | .agg vs => oslIdsl vs
  | .tup vs => oslIdsl vs
  | .fn _ xs ys => oslIdsl xs ++ oslIdsl ys
  | _ => []
def oslIdsl : List V → List Nat
  | [] => []
  | x :: r => oslIds x ++ oslIdsl r
end

def allLow : List Nat → Bool
  | [] => true
  | x :: r => (ltN x 10000) && allLow r

/-- A call whose answer is known. -/
def AVal (P : Program) (G : Glb) (f : FuncId) (args : List V) (r : V) : Prop := ACalls P G f args [] (fun x _ => x = r)

def subFz : List Nat → St → List V → List V
  | [], _, vs => vs
  | id :: r, s, vs => subFz r (frz1 s id) (vs.map (fsub s id))

def oids : Own → List Nat
  | [] => []
  | (k, _) :: r => k :: oids r
mutual
/-- What is told of a value may be told so. -/
inductive LeP (o : Own) : V → V → Prop
  | same (x : V) : LeP o x x
  | junk (x : V) : LeP o x .junk
  | int (k : IntKind) (e e' : IE) (h : e.den = e'.den) : LeP o (.int k e) (.int k e')
  | bool (e e' : BE) (h : e.den = e'.den) : LeP o (.bool e) (.bool e')
  | str (e e' : SE) (h : e.den = e'.den) : LeP o (.str e) (.str e')
  | sl (sz : Nat) {α : Type} (f : α → V) (l l' : List α) (h : l = l') : LeP o (.sl sz f l) (.sl sz f l')
  | sl' (sz : Nat) (x : V) (es : List V) (hx : x.elems = some (sz, es)) {α : Type} (f : α → V) (l : List α) (hl : es.length = l.length) (h : ∀ (i : Nat) (e : V) (p : α), es[i]? = some e → l[i]? = some p → VEq e (f p)) : LeP o x (.sl sz f l)
  | nil (sz : Nat) {α : Type} (f : α → V) (l : List α) (h : l = []) : LeP o .nilsl (.sl sz f l)
  | own (id : Nat) (fx : Bool) (e : TypeId) (sz : Nat) {α : Type} (f : α → V) (l : List α) (ho : olook o id = some (.arr fx e sz f l)) (h : l = []) : LeP o .nilsl (.osl id)
  | agg (xs ys : List V) (h : LePl o xs ys) : LeP o (.agg xs) (.agg ys)
  | tup (xs ys : List V) (h : LePl o xs ys) : LeP o (.tup xs) (.tup ys)
  | fn (f : FuncId) (xs xs' ys ys' : List V) (h : LePl o xs xs') (h' : LePl o ys ys') : LeP o (.fn f xs ys) (.fn f xs' ys')
  | rptr (xs ys : List V) (h : CEqL xs ys) : LeP o (.rptr xs) (.rptr ys)
inductive LePl (o : Own) : List V → List V → Prop
  | nil : LePl o [] []
  | cons (x y : V) (xs ys : List V) (h : LeP o x y) (r : LePl o xs ys) : LePl o (x :: xs) (y :: ys)
end

inductive EntLe (o : Own) : Ent → Ent → Prop
  | same (e : Ent) : EntLe o e e
  | var (xs ys : List V) (h : LePl o xs ys) : EntLe o (.var xs) (.var ys)
  | arr (fx : Bool) (e : TypeId) (sz : Nat) {α : Type} (f : α → V) (l l' : List α) (h : l = l') : EntLe o (.arr fx e sz f l) (.arr fx e sz f l')
  | arr' (fx : Bool) (e : TypeId) (sz : Nat) {α β : Type} (f : α → V) (f' : β → V) (l : List α) (l' : List β) (hl : l.length = l'.length) (h : ∀ (i : Nat) p p', l[i]? = some p → l'[i]? = some p' → VEq (f p) (f' p')) :
      EntLe o (.arr fx e sz f l) (.arr fx e sz f' l')
  | map {α : Type} (f : α → V) (l l' : List (Int × α)) (h : l = l') : EntLe o (.map f l) (.map f l')
  /-- It stays where it is from now on. -/
  | pin (e : TypeId) (sz : Nat) {α : Type} (f : α → V) (l l' : List α) (h : l = l') : EntLe o (.arr false e sz f l) (.arr true e sz f l')
  | unpin (e : TypeId) (sz : Nat) {α : Type} (f : α → V) (l l' : List α) (h : l = l') : EntLe o (.arr true e sz f l) (.arr false e sz f l')

def leO (o' : Own) : Own → Own → Prop
  | _, [] => True
  | o, (x, _) :: r => match olook o x, olook o' x with
    | some e, some e' => EntLe o' e e' ∧ leO o' o r
    | _, _ => False
/-- Own things by other numbers. -/
def srn (ι : Nat → Option Nat) : Sub := ⟨fun id => match ι id with
    | some x => .osl x
    | none => .junk, fun id off => match ι id with
    | some x => .ptr x off
    | none => .junk, fun id i off => match ι id with
    | some x => .eptr x i off
    | none => .junk⟩

/-! A call that is handed own things: by which numbers ('outs': here, there, is it another one behind the call). -/
abbrev Outs := List (Nat × Nat × Bool)
def kap : Outs → Nat → Option Nat
  | [], _ => none
  | (x, c, _) :: r, n => bif (eqN x n) then some c else kap r n
def iot : Outs → Nat → Option Nat
  | [], _ => none
  | (x, c, _) :: r, n => bif (eqN c n) then some x else iot r n
def insO : Outs → Outs
  | [] => []
  | (x, c, m) :: r => bif (ltN c 20000) then (x, c, m) :: insO r else insO r
def ocOf : Outs → St → Sub → Own
  | [], _, _ => []
  | (x, c, _) :: r, s, σ => match olook s.o x with
    | some e => (c, Ent.sub σ e) :: ocOf r s σ
    | none => ocOf r s σ
def usOf : Outs → Own → Sub → List (Nat × Bool × Ent)
  | [], _, _ => []
  | (x, c, m) :: r, o, σ => match olook o c with
    | some e => (x, m, Ent.sub σ e) :: usOf r o σ
    | none => usOf r o σ
def twice : List (Nat × Bool × Ent) → List (Nat × Bool × Ent)
  | [u] => [u, u]
  | us => us
def outX : Outs → List Nat
  | [] => []
  | (x, _, _) :: r => x :: outX r
def outC : Outs → List Nat
  | [] => []
  | (_, c, _) :: r => c :: outC r
def nodupN : List Nat → Bool
  | [] => true
  | x :: r => !(memN r x) && nodupN r
def subN : List Nat → List Nat → Bool
  | [], _ => true
  | x :: r, l => memN l x && subN r l
def fzOf : List Nat → List Nat → List Nat
  | [], _ => []
  | x :: r, l => bif memN l x then fzOf r l else x :: fzOf r l
/-- What may be handed over and what comes back fit. -/
def movesOk (c : Ctx) (s : St) (oc : Own) : Outs → Bool
  | [] => true
  | (x, cid, m) :: r => (bif (ltN cid 20000) then (match olook s.o x, olook oc cid with
      | some _, some e => m || pinned e
      | _, _ => false) else m) && (!m || (ltN x 10000) || !(memN c.pin x)) && movesOk c s oc r
def allHigh : List Nat → Bool
  | [] => true
  | x :: r => (leN 10000 x) && allHigh r
def ownOk (c : Ctx) (outs : Outs) (fz : List Nat) (s : St) (oc o1 : Own) : Bool :=
  nodupN (outX outs) && nodupN (outC outs) && subN (outC outs) (oids o1) && subN (oids o1) (outC outs) && allLow fz && movesOk c s oc outs

inductive CallP (P : Program) (c : Ctx) (f : FuncId) (vs : List V) (s : St) (data lent : List V) (ids : List Nat) (k : Out → Prop) : Prop
  /-- Data are handed over, and handed back; own lists become data. -/
  | data (r : V) (h : AVal P c.G f data r) (hl : allLow ids = true) (hd : isDatal data = true) (hr : isData r = true) (hk : V.wf r → k ⟨r, ids, []⟩) : CallP P c f vs s data lent ids k
  /-- Own lists are lent; what comes back is no memory. -/
  | lend (r : V) (h : AVal P c.G f lent r) (hr : flat r = true) (hk : V.wf r → k ⟨r, [], []⟩) : CallP P c f vs s data lent ids k
  /-- Own things are handed over, and handed back. -/
  | own (outs : Outs) (fz : List Nat) (args : List V) (oc o1 : Own) (r : V) (h : ACalls P c.G f args oc (fun x o' => x = r ∧ o' = o1)) (hc : ownOk c outs fz (frz fz s) oc o1 = true)
      (hl : LePl oc (V.subl (srn (kap (insO outs))) (subFz fz s vs)) args) (hs : subN (oids (ocOf (insO outs) (frz fz s) (srn (kap (insO outs))))) (oids oc) = true) (ho : leO oc (ocOf (insO outs) (frz fz s) (srn (kap (insO outs)))) oc)
      (hk : V.wf r → k ⟨V.sub (srn (iot outs)) r, fz, twice (usOf outs o1 (srn (iot outs)))⟩) : CallP P c f vs s data lent ids k

/-- The cells of a value of which it is known how many they are. -/
def cellsX : V → Option (List V)
  | .agg cs => some cs
  | .int k e => some [.int k e]
  | .bool b => some [.bool b]
  | .str s => some [.str s]
  | .sl sz f l => some [.sl sz f l]
  | .sls sz vs => some [.sls sz vs]
  | .nilsl => some [.nilsl]
  | .osl id => some [.osl id]
  | .view id lo n => some [.view id lo n]
  | .ptr id off => some [.ptr id off]
  | .mp id => some [.mp id]
  | .fn f xs ys => some [.fn f xs ys]
  | .nilptr => some [.nilptr]
  | .nilfn => some [.nilfn]
  | .rptr cs => some [.rptr cs]
  | _ => none

def chk (b : BE) (k : Unit → Prop) : Prop :=
  match b with
  | .lit true => k ()
  | .lit false => False
  | b => Chk b k
def br (b : BE) (t f : Unit → Prop) : Prop :=
  match b with
  | .lit true => t ()
  | .lit false => f ()
  | b => Branch b t f

def ieOf : V → Option IE
  | .int _ e => some e
  | _ => none
def natOf : IE → Option Nat
  | .lit n => match n with
    | .ofNat n => some n
    | _ => none
  | _ => none

def fillX (c : Ctx) (e : Env) (im : List (Nat × Bool)) (place : Nat → Option (Nat × Nat)) : List (Nat × Operand) → List V → Option (List V)
  | [], cs => some cs
  | (i, x) :: r, cs => match place i, cellsX (res e im (evalO c e x)) with
    | some (off, sz), some vs => bif (eqN vs.length sz) && (leN (off + sz) cs.length) then fillX c e im place r (setAt cs off vs) else none
    | _, _ => none

def inOrder : Nat → List (Nat × Operand) → Option (List Operand)
  | _, [] => some []
  | n, (i, x) :: r => bif (eqN i n) then (match inOrder (n + 1) r with
    | some l => some (x :: l)
    | none => none) else none

def allLen (sz : Nat) : List V → Bool
  | [] => true
  | x :: r => match cellsX x with
    | some cs => (eqN cs.length sz) && allLen sz r
    | none => false

/-- Cells by so many. -/
def chunks (sz : Nat) : Nat → List V → Option (List V)
  | 0, [] => some []
  | n + 1, cs => bif leN sz cs.length && ltN 1 sz then (match chunks sz n (cs.drop sz) with
    | some r => some (.agg (cs.take sz) :: r)
    | none => none) else none
  | _, _ => none
/-- An array's elements. -/
def arrEls (sz n : Nat) (cs : List V) : Option (List V) := bif leN (n * sz) cs.length && leN n 1000000 then (bif eqN sz 1 then some (cs.take n) else chunks sz n (cs.take (n * sz))) else none
/-- A part of an array, as a list. -/
inductive SubA (ys : List V) (lo hi : IE) (k : (α : Type) → (α → V) → List α → Prop) : Prop
  | mk {α : Type} (f : α → V) (l : List α) (hl : ys.length = l.length) (hv : ∀ (i : Nat) (e : V) (p : α), ys[i]? = some e → l[i]? = some p → VEq e (f p)) (h : SubP l lo hi (fun l' => k α f l')) : SubA ys lo hi k
def loOf (c : Ctx) (im : List (Nat × Bool)) (s : St) (lo : Option Operand) : Option IE := match lo with
  | some y => ieOf (res s.e im (evalO c s.e y))
  | none => some (.lit 0)
def hiOf (c : Ctx) (im : List (Nat × Bool)) (s : St) (hi : Option Operand) : Option (Option IE) := match hi with
  | some y => (match ieOf (res s.e im (evalO c s.e y)) with
    | some e => some (some e)
    | none => none)
  | none => some none
/-- A struct's own lists become data where it is stored. -/
def storeFz : V → List Nat
  | .agg vs => oslIdsl vs
  | _ => []
/-- An operation that only computes where something is to be shown. -/
def semiOp (c : Ctx) (im : List (Nat × Bool)) (op : Op) (s : St) : Option ((V → Prop) → Prop) :=
  match op with
  | .binOp o t x y _ => match divV o (res s.e im (evalO c s.e x)) (res s.e im (evalO c s.e y)) with
    | some (q, z) => some (fun J => chk q (fun _ => J z))
    | none => (match o, tlook c.T t, res s.e im (evalO c s.e x), res s.e im (evalO c s.e y) with
      | .eql, some ⟨.slice _, _, _, _⟩, .sl _ _ l, .nilsl => some (fun J => NilP l (fun b => J (.bool (.lit b))))
      | .neq, some ⟨.slice _, _, _, _⟩, .sl _ _ l, .nilsl => some (fun J => NilP l (fun b => J (.bool (.lit (!b)))))
      | .eql, some ⟨.slice _, _, _, _⟩, .osl id, .nilsl => (match olook s.o id with
        | some (.arr _ _ _ _ l) => some (fun J => NilP l (fun b => J (.bool (.lit b))))
        | _ => none)
      | .neq, some ⟨.slice _, _, _, _⟩, .osl id, .nilsl => (match olook s.o id with
        | some (.arr _ _ _ _ l) => some (fun J => NilP l (fun b => J (.bool (.lit (!b)))))
        | _ => none)
      | _, _, _, _ => none)
  | .indexAddr t x i => match tlook c.T t, ieOf (res s.e im (evalO c s.e i)) with
    | some ⟨.slice el, _, _, _⟩, some ie => match tlook c.T el with
      | some ti => match res s.e im (evalO c s.e x) with
        | .sl sz f l => bif (eqN sz ti.sz) then some (fun J => ElemP f l ie (fun p => J (.rptr (cells (f p))))) else none
        | .sls sz vs => bif (eqN sz ti.sz) then (match natOf ie with
          | some n => match nthv vs n with
            | some y => some (fun J => J (.rptr (cells y)))
            | none => none
          | none => some (fun J => ElemV vs ie (fun y => J (.rptr (cells y))))) else none
        | .view id lo n => match olook s.o id with
          | some (.arr _ _ sz _ _) => bif (eqN sz ti.sz) then some (fun J => chk (cmpI .geq ie (.lit 0)) (fun _ => chk (cmpI .lss ie n) (fun _ => J (.eptr id (arI .add .i64 lo ie) 0)))) else none
          | _ => none
        | .osl id => match olook s.o id with
          | some (.arr _ _ sz _ l) => bif (eqN sz ti.sz) then some (fun J => chk (cmpI .geq ie (.lit 0)) (fun _ => chk (cmpI .lss ie (.len l)) (fun _ => J (.eptr id ie 0)))) else none
          | _ => none
        | _ => none
      | none => none
    | some ⟨.arr n el, _, _, _⟩, some ie => match tlook c.T el with
      | some ti => match res s.e im (evalO c s.e x) with
        | .rptr cs => match natOf ie with
          | some j => bif (ltN j n) && (ltN (j * ti.sz) cs.length) then some (fun J => J (.rptr (cs.drop (j * ti.sz)))) else none
          | none => bif (eqN ti.sz 1) && (eqN cs.length n) then some (fun J => ElemV cs ie (fun y => J (.rptr (cells y)))) else (match chunks ti.sz n cs with
            | some ys => some (fun J => ElemV ys ie (fun y => J (.rptr (cells y))))
            | none => none)
        | .ptr id off => match natOf ie with
          | some j => bif (ltN j n) then some (fun J => J (.ptr id (off + j * ti.sz))) else none
          | none => some (fun J => SplitI ie n (fun j => J (.ptr id (off + j * ti.sz))))
        | _ => none
      | none => none
    | _, _ => none
  | .slice t x lo hi none => match tlook c.T t with
    | some ⟨.slice el, _, _, _⟩ => match tlook c.T el, (match lo with
        | some y => ieOf (res s.e im (evalO c s.e y))
        | none => some (.lit 0)), (match hi with
        | some y => (match ieOf (res s.e im (evalO c s.e y)) with
          | some e => some (some e)
          | none => none)
        | none => some none) with
      | some ti, some l0, some h0 => match res s.e im (evalO c s.e x) with
        | .sl sz f l => bif (eqN sz ti.sz) then some (fun J => SubP l l0 (h0.getD (.len l)) (fun l' => J (.sl sz f l'))) else none
        | _ => none
      | _, _, _ => none
    | some ⟨.arr n el, _, _, _⟩ => match tlook c.T el, loOf c im s lo, hiOf c im s hi, res s.e im (evalO c s.e x) with
      | some ti, some l0, some h0, .rptr cs => (match arrEls ti.sz n cs with
        | some ys => some (fun J => SubA ys l0 (h0.getD (.lit n)) (fun _ f l' => J (.sl ti.sz f l')))
        | none => none)
      | _, _, _, _ => none
    | some ⟨.str, _, _, _⟩ => match loOf c im s lo, hiOf c im s hi, res s.e im (evalO c s.e x) with
      | some l0, some h0, .str e => some (fun J => SubS e l0 (h0.getD (.slen e)) (fun l' => J (.str (.v l'))))
      | _, _, _ => none
    | _ => none
  | .build t parts => match tlook c.T t with
    | some ⟨.struct fs, _, _, zero⟩ => match fillX c s.e im (fun i => match nthf fs i with
        | some (off, ft) => match tlook c.T ft with
          | some ti => some (off, ti.sz)
          | none => none
        | none => none) parts.toList zero with
      | some cs => some (fun J => J (.agg cs))
      | none => none
    | some ⟨.arr _ el, _, _, zero⟩ => match tlook c.T el with
      | some ti => match fillX c s.e im (fun i => some (i * ti.sz, ti.sz)) parts.toList zero with
        | some cs => some (fun J => J (.agg cs))
        | none => none
      | none => none
    | _ => none
  | .index t x i => match tlook c.T t, res s.e im (evalO c s.e x), ieOf (res s.e im (evalO c s.e i)) with
    | some ⟨.str, _, _, _⟩, .str e, some ie => some (fun J => ElemS e ie (fun b => J (byteV b)))
    | _, _, _ => none
  | _ => none

/-- A part of an own list that is only looked at, or copied. -/
def viewOp (c : Ctx) (im : List (Nat × Bool)) (op : Op) (s : St) : Option ((V → Prop) → Prop) :=
  match op with
  | .slice t x lo hi none => match tlook c.T t with
    | some ⟨.slice el, _, _, _⟩ => match tlook c.T el, (match lo with
        | some y => ieOf (res s.e im (evalO c s.e y))
        | none => some (.lit 0)), (match hi with
        | some y => (match ieOf (res s.e im (evalO c s.e y)) with
          | some e => some (some e)
          | none => none)
        | none => some none) with
      | some ti, some l0, some h0 => match res s.e im (evalO c s.e x) with
        | .osl id => match olook s.o id with
          | some (.arr _ _ sz _ l) => bif (eqN sz ti.sz) then some (fun J => ViewP l l0 (h0.getD (.len l)) (fun lo n => J (.view id lo n))) else none
          | _ => none
        | _ => none
      | _, _, _ => none
    | _ => none
  | _ => none

/-- The variables that functions lean on. -/
def capIn (s : St) : List V → List Nat
  | [] => []
  | .ptr id _ :: r => (match olook s.o id with
    | some (.var cs) => oslIdsl cs
    | _ => []) ++ (id :: capIn s r)
  | _ :: r => capIn s r
def capIds (s : St) : List V → List Nat
  | [] => []
  | .fn _ xs ys :: r => capIn s xs ++ (capIn s ys ++ capIds s r)
  | _ :: r => capIds s r
/-- An operation that does more than compute. -/
def effOp (P : Program) (c : Ctx) (im : List (Nat × Bool)) (op : Oper) (s : St) (K : Out → Prop) : Prop :=
  match op.op with
  | .alloc t => match op.dst, tlook c.T t with
    | some d, some ti => bif (ltN d 10000) then K ⟨.ptr d 0, [], [(d, true, .var ti.zero)]⟩ else False
    | _, _ => False
  | .box t x => match op.dst, cellsX (res s.e im (evalO c s.e x)) with
    | some d, some cs => bif (ltN d 10000) then BoxP (bif isDatal cs then K ⟨.rptr cs, [], []⟩ else False) (K ⟨.ptr d 0, [], [(d, true, .var cs)]⟩) else False
    | _, _ => False
  | .store t a x => match storeFz (res s.e im (evalO c s.e x)) with
    | [] => (match tlook c.T t, res s.e im (evalO c s.e a), cellsX (res s.e im (evalO c s.e x)) with
      | some ti, .ptr id off, some vs => match olook s.o id with
        | some (.var cs) => bif (eqN vs.length ti.sz) && (leN (off + ti.sz) cs.length) then K ⟨.junk, [], [(id, false, .var (setAt cs off vs))]⟩ else False
        | _ => False
      | some ti, .eptr id i off, some vs => match olook s.o id with
        | some (.arr fx e sz f l) => bif (eqN vs.length ti.sz) && (leN (off + ti.sz) sz) && isDatal vs then EstoreP f l i off vs (fun l' => K ⟨.junk, [], [(id, false, .arr fx e sz f l')]⟩) else False
        | _ => False
      | _, _, _ => False)
    | i0 :: ids => (match tlook c.T t, subFz (i0 :: ids) s [res s.e im (evalO c s.e a), res s.e im (evalO c s.e x)] with
      | some ti, [.ptr id off, .agg vs] => match olook (frz (i0 :: ids) s).o id with
        | some (.var cs) => bif allLow (i0 :: ids) && (eqN vs.length ti.sz) && (leN (off + ti.sz) cs.length) then K ⟨.junk, i0 :: ids, [(id, false, .var (setAt cs off vs))]⟩ else False
        | _ => False
      | _, _ => False)
  | .load t a => match tlook c.T t, res s.e im (evalO c s.e a) with
    | some ti, .eptr id i off => match olook s.o id with
      | some (.arr _ _ _ f l) => EloadP f l i (fun p => match loadX ti ((cells (f p)).drop off) with
        | some v => K ⟨v, [], []⟩
        | none => False)
      | _ => False
    | _, _ => False
  | .slice t x lo hi none => match tlook c.T t with
    | some ⟨.slice el, _, _, _⟩ => match tlook c.T el, (match lo with
        | some y => ieOf (res s.e im (evalO c s.e y))
        | none => some (.lit 0)), (match hi with
        | some y => (match ieOf (res s.e im (evalO c s.e y)) with
          | some e => some (some e)
          | none => none)
        | none => some none) with
      | some ti, some l0, some h0 => match res s.e im (evalO c s.e x) with
        | .osl id => match olook s.o id with
          | some (.arr fx e sz f l) => bif (eqN sz ti.sz) then SubO l l0 (h0.getD (.len l)) (fun l' => bif (ltN id 10000) then K ⟨.sl sz f l', [id], []⟩ else False) (fun lo n => K ⟨.view id lo n, [], []⟩)
              (fun l' => bif (ltN id 10000) || !(memN c.pin id) then K ⟨.osl id, [], [(id, true, .arr fx e sz f l')]⟩ else False) else False
          | _ => False
        | _ => False
      | _, _, _ => False
    | some ⟨.arr n el, _, _, _⟩ => match tlook c.T el, loOf c im s lo, hiOf c im s hi, res s.e im (evalO c s.e x) with
      | some ti, some l0, some h0, .ptr id off => (match olook s.o id with
        | some (.var cs) => (match arrEls ti.sz n (cs.drop off), isDatal cs && ltN id 10000 with
          | some ys, true => SubA ys l0 (h0.getD (.lit n)) (fun _ f l' => K ⟨.sl ti.sz f l', [id], []⟩)
          | _, _ => False)
        | _ => False)
      | _, _, _, _ => False
    | _ => False
  | .convert sr d x => match tlook c.T sr, tlook c.T d with
    | some ⟨.slice el, _, _, _⟩, some ⟨.str, _, _, _⟩ => match tlook c.T el with
      | some ⟨.int .u8, _, _, _⟩ => StrP s.o (res s.e im (evalO c s.e x)) (fun bs => K ⟨.str (.v bs), [], []⟩)
      | _ => False
    | some ⟨.str, _, _, _⟩, some ⟨.slice el, _, _, _⟩ => match tlook c.T el, res s.e im (evalO c s.e x) with
      | some ⟨.int .u8, _, _, _⟩, .str e => BytP e (fun l => K ⟨.sl 1 u8V l, [], []⟩)
      | _, _ => False
    | _, _ => False
  | .makeSlice t l cp => match op.dst, tlook c.T t, ieOf (res s.e im (evalO c s.e l)), (match l, cp with
      | .tmp a, .tmp b => (eqN a b)
      | .const (.int _ a), .const (.int _ b) => decide (a = b)
      | _, _ => false) with
    | some d, some ⟨.slice el, _, _, _⟩, some n, true => match tlook c.T el with
      | some ti => bif (ltN d 10000) && (ltN 0 ti.sz) then MakeP ti.bytes n ti.zero (fun _ f l => K ⟨.osl d, [], [(d, true, .arr false el ti.sz f l)]⟩) else False
      | none => False
    | _, _, _, _ => False
  | .buildSlice t n parts => match tlook c.T t, inOrder 0 parts.toList with
    | some ⟨.slice el, _, _, _⟩, some xs => match tlook c.T el with
      | some ti =>
        let vs := xs.map fun x => res s.e im (evalO c s.e x)
        let ids := oslIdsl vs
        let vs' := subFz ids s vs
        bif (eqN xs.length n) && isDatal vs' && allLen ti.sz vs' && allLow ids && (leN (n * ti.sz) 16777216) && (ltN 0 ti.sz) then (match op.dst, (eqN n 0) with
          | some d, true => bif (ltN d 10000) then EmptyP (K ⟨.sls ti.sz vs', ids, []⟩) (fun _ f => K ⟨.osl d, [], [(d, true, .arr false el ti.sz f [])]⟩) else K ⟨.sls ti.sz vs', ids, []⟩
          | some d, false => bif (ltN d 10000) && (eqN ids.length 0) then BuildP ti.sz vs' (K ⟨.sls ti.sz vs', ids, []⟩) (fun _ f l => K ⟨.osl d, [], [(d, true, .arr false el ti.sz f l)]⟩) else K ⟨.sls ti.sz vs', ids, []⟩
          | _, _ => K ⟨.sls ti.sz vs', ids, []⟩) else False
      | none => False
    | _, _ => False
  | .call ⟨.builtin .append, ⟨[x, y]⟩, ⟨[t, u]⟩⟩ => match op.dst, tlook c.T t, (eqN t u || isStrT c.T u) with
    | some d, some ⟨.slice el, _, _, _⟩, true => match tlook c.T el with
      | some ti => bif (ltN d 10000) && (ltN 0 ti.sz) && (ltN 0 ti.bytes) then
        let a := res s.e im (evalO c s.e x)
        AppP ti.bytes ti.sz el a (strL (res s.e im (evalO c s.e y))) s.o (fun q _ f l => bif ltN q 10000 then K ⟨.osl q, [], [(q, true, .arr false el ti.sz f l)]⟩ else False) (fun _ f l => match a with
          | .osl id => bif (ltN id 10000) || !(memN c.pin id) then K ⟨.osl id, [], [(id, true, .arr false el ti.sz f l)]⟩ else False
          | _ => False) else False
      | none => False
    | _, _, _ => False
  | .call ⟨.builtin .copy, ⟨[x, y]⟩, ⟨[t, u]⟩⟩ => match tlook c.T t, (eqN t u || isStrT c.T u) with
    | some ⟨.slice el, _, _, _⟩, true => match tlook c.T el with
      | some ti => bif (ltN 0 ti.sz) then CopyP ti.sz (res s.e im (evalO c s.e x)) (strL (res s.e im (evalO c s.e y))) s.o (fun _ => K ⟨.int .i64 (.lit 0), [], []⟩) (fun id fx e _ f l q => K ⟨.int .i64 (.nat q), [], [(id, false, .arr fx e ti.sz f l)]⟩) else False
      | none => False
    | _, _ => False
  | .call ⟨.builtin .clear, ⟨[x]⟩, ⟨[t]⟩⟩ => match tlook c.T t with
    | some ⟨.slice el, _, _, _⟩ => match tlook c.T el with
      | some ti => bif (ltN 0 ti.sz) then ClearP ti.sz ti.zero (res s.e im (evalO c s.e x)) s.o (fun _ => K ⟨.tup [], [], []⟩) (fun id fx e _ f l => K ⟨.tup [], [], [(id, false, .arr fx e ti.sz f l)]⟩) else False
      | none => False
    | _ => False
  | .call ⟨.builtin .len, ⟨[x]⟩, ⟨[t]⟩⟩ => match tlook c.T t, res s.e im (evalO c s.e x) with
    | some ⟨.map _ _, _, _, _⟩, .mp id => (match olook s.o id with
      | some (.map _ l) => K ⟨.int .i64 (.len l), [], []⟩
      | _ => False)
    | _, _ => False
  | .makeMap t none => match op.dst, tlook c.T t with
    | some d, some ⟨.map k _, _, _, _⟩ => match tlook c.T k with
      | some ⟨.int .i64, _, _, _⟩ => bif ltN d 10000 then MkMapP (fun _ f => K ⟨.mp d, [], [(d, true, .map f [])]⟩) else False
      | _ => False
    | _, _ => False
  | .lookup t x i ok => match tlook c.T t with
    | some ⟨.map k e, _, _, _⟩ => match tlook c.T k, tlook c.T e, res s.e im (evalO c s.e x), res s.e im (evalO c s.e i) with
      | some ⟨.int .i64, _, _, _⟩, some ti, .mp id, .int .i64 ie => (match olook s.o id, loadX ti ti.zero with
        | some (.map f l), some z => LookP f l ie z (fun p b => K ⟨lookV ok (f p) b, [], []⟩)
        | _, _ => False)
      | _, _, _, _ => False
    | _ => False
  | .mapUpdate t x i v => match tlook c.T t with
    | some ⟨.map k _, _, _, _⟩ => match tlook c.T k, res s.e im (evalO c s.e x), res s.e im (evalO c s.e i), isData (res s.e im (evalO c s.e v)) with
      | some ⟨.int .i64, _, _, _⟩, .mp id, .int .i64 ie, true => (match olook s.o id with
        | some (.map f l) => MputP f l ie (res s.e im (evalO c s.e v)) (fun l' => K ⟨.junk, [], [(id, false, .map f l')]⟩)
        | _ => False)
      | _, _, _, _ => False
    | _ => False
  | .call ⟨.value f, ⟨args⟩, _⟩ => match res s.e im (evalO c s.e f) with
    | .fn f first cap =>
      let vs := first ++ args.map (fun x => res s.e im (evalO c s.e x)) ++ cap
      let ids := oslIdsl vs ++ (capIds s vs ++ capIn s (first ++ cap))
      CallP P c f vs s (subFz ids s vs) (V.subl (sview s.o) vs) ids K
    | _ => False
  | _ => False

def stepOp (P : Program) (c : Ctx) (im : List (Nat × Bool)) (op : Oper) (s : St) (K : Out → Prop) : Prop :=
  match pureV c s.e s.o im op.op with
  | some v => K ⟨v, [], []⟩
  | none => match semiOp c im op.op s with
    | some q => q (fun v => K ⟨v, [], []⟩)
    | none => effOp P c im op s K

end Go.Vg
/- The conditions suffice, operation by operation. -/
namespace Go.Vg
open Go

section
variable {P : Program} {c : Ctx} {z : From} {F : Nat → Prop} {β : Bt} {s : St} {tm : Array Value} {w : World} {a : Act} {op : Oper} {K : Out → Prop}

def StepTo (P : Program) (c : Ctx) (z : From) (s : St) (tm : Array Value) (w : World) (a : Act) (op : Oper) (K : Out → Prop) : Prop :=
  ∀ (next : Act → World → Prop) (Q : Exit → Act → World → Prop), (∀ out F' β' val w', K out → Rl P c z F' β' (s.after out) tm w' → RA w' F' β' (s.after out).o val out.v → next (a.put op.dst val) w') → op.wp P a w next Q

theorem StepTo.of_run {val : Value} {w' : World} {out : Out} {F' : Nat → Prop} {β' : Bt} (h : (execOp a.eval op).run P w = .ok (.value val) w') (hk : K out) (hr : Rl P c z F' β' (s.after out) tm w') (hv : RA w' F' β' (s.after out).o val out.v) :
    StepTo P c z s tm w a op K := fun next Q hn => by
  unfold Oper.wp; rw [h]; exact hn out F' β' val w' hk hr hv
theorem StepTo.of_skip {w' : World} {out : Out} {F' : Nat → Prop} {β' : Bt} (h : (execOp a.eval op).run P w = .ok .skip w') (hk : K out) (hr : Rl P c z F' β' (s.after out) tm w') (hv : out.v = .junk) :
    StepTo P c z s tm w a op K := fun next Q hn => by
  unfold Oper.wp; rw [h]; exact hn out F' β' undef w' hk hr (by rw [hv]; exact .junk _)

/-- A value, whatever the world; nothing is turned. -/
def YieldTo (P : Program) (s : St) (w : World) (F : Nat → Prop) (β : Bt) (a : Act) (op : Oper) (J : V → Prop) : Prop :=
  ∃ v x, (∀ w', (execOp a.eval op).run P w' = .ok (.value v) w') ∧ RA w F β s.o v x ∧ J x
theorem YieldTo.step (hr : Rl P c z F β s tm w) (h : YieldTo P s w F β a op (fun x => K ⟨x, [], []⟩)) : StepTo P c z s tm w a op K :=
  let ⟨_, _, h1, h2, h3⟩ := h
  StepTo.of_run (h1 w) h3 hr h2

theorem cellsX_ra {o : Own} {v : Value} {x : V} {cs : List V} (h : RA w F β o v x) (hx : cellsX x = some cs) : v.cells.size = cs.length ∧ (∀ u, u ∈ v.cells → u.oneCell' = true) ∧
    ∀ (i : Nat) (u : Value) (y : V), v.cells[i]? = some u → cs[i]? = some y → RA w F β o u y := by
  have one : ∀ x : V, v.oneCell' = true → cellsX x = some [x] → RA w F β o v x → v.cells.size = 1 ∧ (∀ u, u ∈ v.cells → u.oneCell' = true) ∧ ∀ (i : Nat) (u : Value) (y : V), v.cells[i]? = some u → [x][i]? = some y → RA w F β o u y := by
    intro x h1 _ h2
    have hc : v.cells = #[v] := by cases v <;> first | rfl | simp [Value.oneCell'] at h1
    rw [hc]
    refine ⟨rfl, by simpa using h1, fun i u y hi hy => ?_⟩
    cases i with
    | zero => simp at hi hy; subst hi; subst hy; exact h2
    | succ i => simp at hi
  cases x <;> simp only [cellsX, Option.some.injEq, reduceCtorEq] at hx
  case agg xs =>
    subst hx
    obtain ⟨cs, rfl, h1, h2, h3⟩ := RA.of_agg h
    exact ⟨h1, h2, h3⟩
  case int k e => subst hx; exact one _ (by rw [(RA.of_int h).1]; rfl) rfl h
  case bool e => subst hx; exact one _ (by rw [RA.of_bool h]; rfl) rfl h
  case str e => subst hx; exact one _ (by rw [(RA.of_str h).1]; rfl) rfl h
  case sl sz α f l => subst hx; obtain ⟨_, _, e, _⟩ := slice_val (RA.of_elems h rfl) rfl; exact one _ (by rw [e]; rfl) rfl h
  case sls sz vs => subst hx; obtain ⟨_, _, e, _⟩ := slice_val (RA.of_elems h rfl) rfl; exact one _ (by rw [e]; rfl) rfl h
  case nilsl => subst hx; obtain ⟨_, _, e, _⟩ := slice_val (RA.of_elems h rfl) rfl; exact one _ (by rw [e]; rfl) rfl h
  case osl id => subst hx; obtain ⟨_, _, _, _, _, _, _, h2⟩ := RA.of_osl h; exact one _ (by rcases h2 with ⟨_, e⟩ | ⟨_, _, _, _, e, _⟩ <;> rw [e] <;> rfl) rfl h
  case view id lo n => subst hx; obtain ⟨_, _, _, _, _, _, _, _, _, _, _, _, h2⟩ := RA.of_view h; exact one _ (by rcases h2 with ⟨_, _, _, e⟩ | ⟨_, _, _, _, _, e, _⟩ <;> rw [e] <;> rfl) rfl h
  case ptr id off => subst hx; obtain ⟨_, _, _, _, e⟩ := RA.of_ptr h; exact one _ (by rw [e]; rfl) rfl h
  case mp id => subst hx; obtain ⟨_, _, _, _, _, _, e⟩ := RA.of_mp h; exact one _ (by rw [e]; rfl) rfl h
  case rptr xs => subst hx; obtain ⟨_, e⟩ := rptr_val (RA.of_rptr h); exact one _ (by rw [e]; rfl) rfl h
  case fn f xs ys => subst hx; obtain ⟨_, _, e, _⟩ := RA.of_fn h; exact one _ (by rw [e]; rfl) rfl h
  case nilptr => subst hx; exact one _ (by rw [RA.of_nilptr h]; rfl) rfl h
  case nilfn => subst hx; exact one _ (by rw [RA.of_nilfn h]; rfl) rfl h

theorem heap_push (w : World) (o : Obj) : ∀ b, b < w.heap.size → (w.heap.push o)[b]? = w.heap[b]? := fun b hb => by rw [Array.getElem?_push, if_neg (by omega)]

/-- A new variable. -/
theorem Rl.newVar (hr : Rl P c z F β s tm w) {d : Nat} (hd : d < 10000) {cv : Array Value} {cs : List V} {t : TypeId} (h1 : cv.size = cs.length) (h2 : ∀ u, u ∈ cv → u.oneCell' = true)
    (h3 : ∀ (i : Nat) (u : Value) (y : V), cv[i]? = some u → cs[i]? = some y → RA w F β s.o u y) :
    ∃ F' β', Rl P c z F' β' (up1 s (d, true, .var cs)) tm { w with heap := w.heap.push (.cells cv t) } ∧ RA { w with heap := w.heap.push (.cells cv t) } F' β' (up1 s (d, true, .var cs)).o (.pointer (some ⟨w.heap.size, 0, none⟩)) (.ptr d 0) := by
  let w' : World := { w with heap := w.heap.push (.cells cv t) }
  let F' : Nat → Prop := fun b => F b ∨ b = w.heap.size
  have hlt : ∀ b, F b → b < w.heap.size := hr.Flt
  have hk : ∀ b, b < w.heap.size → w'.heap[b]? = w.heap[b]? := heap_push w _
  have hF2 : ∀ b, b < w.heap.size → F' b → F b := fun b hb h => h.resolve_right (by omega)
  have hsz : w.heap.size ≤ w'.heap.size := by simp [w']
  have hd' := hd_of (w := w) (w' := w') (F := F) (F' := F') (fun b hb _ => hk b hb) hF2 hsz
  have hdomX : ∀ b, β d = some b → ∃ e0, olook s.o d = some e0 := fun b hb => by
    cases h : olook s.o d with
    | some e => exact ⟨e, rfl⟩
    | none => rw [hr.dom d h] at hb; cases hb
  have hR := hr.anew (w' := w') (F' := F') (X := d) (nb := some w.heap.size) (ent := .var cs) (.inl hd) (fun b hb _ => hk b hb) rfl rfl ⟨rfl, .inr (Nat.le_refl _)⟩ hsz (fun b h => .inl h) hF2
    (fun b h => by rcases h with h | h; (· have := hlt b h; simp [w']; omega); (· simp [w', h])) (fun b hb => by cases hb; exact .inl (Nat.le_refl _)) ?_
  · refine ⟨F', _, hR, .ptr d 0 w.heap.size (by simp) (V.subl (spurge d) cs) (by simp [up1, olook, Ent.sub])⟩
  · refine ⟨w.heap.size, cv, t, by simp, .inr rfl, by simp [w'], by simp [h1, V.subl_eq], h2, fun i u y hi hy => ?_⟩
    rw [V.subl_eq, List.getElem?_map, Option.map_eq_some_iff] at hy
    obtain ⟨y', hy', rfl⟩ := hy
    refine RA.purge hd' (fun id e0 hne he => ?_) (h3 i u y' hi hy')
    have hol : olook (up1 s (d, true, .var cs)).o id = (olook s.o id).map (Ent.sub (spurge d)) := by simp [up1, olook, beq_false hne, olook_subO, olook_oerase, hne]
    refine ⟨by simp [hne], fun cs h => ⟨_, by rw [hol, h]; rfl⟩, fun fx e sz α f l h => ⟨fx, α, f, l, by rw [hol, h]; rfl, rfl, fun b cur hb hc => ⟨cur, ?_, rfl⟩⟩, fun α f l h => ⟨α, f, l, by rw [hol, h]; rfl⟩⟩
    rw [hk b (blk_lt hc)]; exact hc

theorem after_one (s : St) (v : V) (u : Nat × Bool × Ent) : s.after ⟨v, [], [u]⟩ = up1 s u := rfl
theorem after_none (s : St) (v : V) : s.after ⟨v, [], []⟩ = s := rfl

theorem step_alloc (hr : Rl P c z F β s tm w) {t : TypeId} {ti : TI} {d : Nat} (hop : op.op = .alloc t) (ht : tlook c.T t = some ti) (hd : d < 10000) (hk : K ⟨.ptr d 0, [], [(d, true, .var ti.zero)]⟩) : StepTo P c z s tm w a op K := by
  obtain ⟨info, zv, desc, h1, h2, h3, h4, h5, h6, h7, h8, h9, h10⟩ := hr.tab.ok t ti ht
  obtain ⟨F', β', g1, g2⟩ := hr.newVar (t := t) hd (cv := zv.cells) (cs := ti.zero) (by rw [← h7]; simp) h9 (fun i u y hi hy => by
    rw [← h7, List.getElem?_map, Option.map_eq_some_iff] at hy
    obtain ⟨u', hu', rfl⟩ := hy
    have : zv.cells.toList[i]? = some u := by simpa using hi
    rw [this] at hu'; cases hu'
    exact .d _ _ (constV_rd w F u))
  refine StepTo.of_run (val := .pointer (some ⟨w.heap.size, 0, none⟩)) (w' := { w with heap := w.heap.push (.cells zv.cells t) }) ?_ hk g1 g2
  simp [execOp, hop, Instr.alloc, zeroValue, typeInfo, h1, h6, newVar, newRow]

theorem step_box (ha : a.tmps = tm) (hr : Rl P c z F β s tm w) {im : List (Nat × Bool)} (him : ∀ t b, (t, b) ∈ im → tm.getD t undef = .bool b) {t : TypeId} {x : Operand} {d : Nat} {cs : List V} (hop : op.op = .box t x)
    (hx : cellsX (res s.e im (evalO c s.e x)) = some cs) (hd : d < 10000) (hk : K ⟨.ptr d 0, [], [(d, true, .var cs)]⟩) : StepTo P c z s tm w a op K := by
  obtain ⟨h1, h2, h3⟩ := cellsX_ra (res_ra ha hr.toRel him x) hx
  obtain ⟨F', β', g1, g2⟩ := hr.newVar (t := t) hd h1 h2 h3
  refine StepTo.of_run (val := .pointer (some ⟨w.heap.size, 0, none⟩)) (w' := { w with heap := w.heap.push (.cells (a.eval x).cells t) }) ?_ hk g1 g2
  simp [execOp, hop, Instr.box, newVar, newRow]

theorem setAt_get (vs : List V) : ∀ (off : Nat) (cs : List V) (j : Nat), off + vs.length ≤ cs.length → (setAt cs off vs)[j]? = if j < off then cs[j]? else if j < off + vs.length then vs[j - off]? else cs[j]? := by
  induction vs with
  | nil =>
    intro off cs j _
    simp only [setAt, List.length_nil, Nat.add_zero]
    by_cases h : j < off
    · simp [h]
    · simp [h]
  | cons v r ih =>
    intro off cs j h
    simp only [List.length_cons] at h
    rw [setAt, ih (off + 1) (cs.set off v) j (by simp; omega)]
    simp only [List.getElem?_set, List.length_cons]
    by_cases h1 : j < off
    · simp [h1, show j < off + 1 by omega, show ¬ off = j by omega]
    · by_cases h2 : j = off
      · subst h2
        have h3 : j < cs.length := by omega
        simp [h3]
      · have h3 : ¬ j < off + 1 := by omega
        have h4 : ¬ off = j := by omega
        simp only [h1, h3, h4, if_false]
        by_cases h5 : j < off + (r.length + 1)
        · have h6 : j < off + 1 + r.length := by omega
          simp only [h5, h6, if_true]
          rw [show j - off = (j - (off + 1)) + 1 by omega]
          rfl
        · have h6 : ¬ j < off + 1 + r.length := by omega
          simp only [h5, h6, if_false]
theorem seg_get {α : Type _} (l vs : List α) (k j : Nat) (h : k + vs.length ≤ l.length) : (l.take k ++ vs ++ l.drop (k + vs.length))[j]? = if j < k then l[j]? else if j < k + vs.length then vs[j - k]? else l[j]? := by
  have hk : min k l.length = k := by omega
  simp only [List.getElem?_append, List.length_append, List.length_take, hk, List.getElem?_take, List.getElem?_drop]
  by_cases h1 : j < k
  · simp [h1, show j < k + vs.length by omega]
  · by_cases h2 : j < k + vs.length
    · simp [h1, h2]
    · simp only [h1, h2, if_false]
      congr 1; omega
theorem setAt_len (vs : List V) : ∀ (off : Nat) (cs : List V), (setAt cs off vs).length = cs.length := by
  induction vs with
  | nil => intro off cs; rfl
  | cons v r ih => intro off cs; rw [setAt, ih]; simp


theorem seg_size (cur vs : List Value) (k : Nat) (h : k + vs.length ≤ cur.length) : (cur.take k ++ vs ++ cur.drop (k + vs.length)).length = cur.length := by
  simp; omega
theorem seg_one {cur : Array Value} {vs : List Value} {k : Nat} (h1 : ∀ v, v ∈ cur → v.oneCell' = true) (h2 : ∀ v, v ∈ vs → v.oneCell' = true) : ∀ v, v ∈ (cur.toList.take k ++ vs ++ cur.toList.drop (k + vs.length)).toArray → v.oneCell' = true := by
  intro v hv
  simp only [List.mem_toArray, List.mem_append] at hv
  rcases hv with (hv | hv) | hv
  · exact h1 v (by simpa using List.mem_of_mem_take hv)
  · exact h2 v hv
  · exact h1 v (by simpa using List.mem_of_mem_drop hv)

theorem storeVar_run {T : Tab} (hT : TabOk P T) {t : TypeId} {ti : TI} (ht : tlook T t = some ti) {b off : Nat} {cur : Array Value} {e : TypeId} (hb : w.heap[b]? = some (.cells cur e (0, 0))) {v : Value} (h1 : v.cells.size = ti.sz) (h2 : off + ti.sz ≤ cur.size)
    (h3 : ∀ u, u ∈ v.cells → u.oneCell' = true) : (storeVar t ⟨b, off, none⟩ v).run P w = .ok () (w.setRow b (cur.toList.take off ++ v.cells.toList ++ cur.toList.drop (off + v.cells.toList.length)).toArray) := by
  have := run_storeCells_at P b off e v.cells.toList 0 cur w hb (by simp; omega) (fun u hu => h3 u (by simpa using hu))
  simp only [Nat.add_zero] at this
  simp [storeVar, Sem.run_bind, sizeOf_run hT ht, h1, this]

theorem step_store' {s1 : St} (hr : Rl P c z F β s1 tm w) {t : TypeId} {x y : Operand} {ti : TI} {id off : Nat} {cs vs : List V} {vy : V} {out : Out} (hop : op.op = .store t x y)
    (ht : tlook c.T t = some ti) (hxx : RA w F β s1.o (a.eval x) (.ptr id off)) (hyy : RA w F β s1.o (a.eval y) vy) (hy : cellsX vy = some vs) (ho : olook s1.o id = some (.var cs)) (hl : vs.length = ti.sz) (hb : off + ti.sz ≤ cs.length)
    (hk : K out) (hv : out.v = .junk) (haf : s.after out = up1 s1 (id, false, .var (setAt cs off vs))) : StepTo P c z s tm w a op K := by
  obtain ⟨h1, h2, h3⟩ := cellsX_ra hyy hy
  obtain ⟨b, cs', g1, g2, g3⟩ := RA.of_ptr hxx
  rw [ho] at g2; cases g2
  obtain ⟨b', cur, e, m1, m2, m3, m4, m5, m6⟩ := hr.own.ent id _ ho
  rw [g1] at m1; cases m1
  have hsz : (a.eval y).cells.size = ti.sz := h1.trans hl
  have hrun := storeVar_run (w := w) hr.tab ht m3 hsz (off := off) (by omega) h2
  have hlen : off + (a.eval y).cells.toList.length ≤ cur.toList.length := by simp; omega
  refine StepTo.of_skip (w' := w.setRow b (cur.toList.take off ++ (a.eval y).cells.toList ++ cur.toList.drop (off + (a.eval y).cells.toList.length)).toArray) ?_ hk
    (haf ▸ hr.write (w' := w.setRow b _) ho g1 (fun b' _ hne => setRow_other w b b' _ hne) rfl rfl ⟨rfl, .inr (Nat.le_refl _)⟩ (by simp) (.inl ⟨_, _, rfl, rfl⟩) (fun g _ => ?_)) hv
  · simp only [execOp, hop, Sem.run_bind, Instr.storeAt, Instr.sureAddr, g3, Sem.run_pure, Result.andThen_ok, hrun]
  · refine ⟨b, _, e, g1, m2, setRow_heap w b cur _ e (0, 0) m3, ?_, seg_one m5 (fun u hu => h2 u (by simpa using hu)), fun i u q hi hq => ?_⟩
    · rw [setAt_len, List.size_toArray, seg_size _ _ _ hlen, ← m4]; simp
    · rw [List.getElem?_toArray, seg_get _ _ _ _ hlen] at hi
      rw [setAt_get _ _ _ _ (by omega)] at hq
      by_cases c1 : i < off
      · simp only [c1, if_true] at hi hq
        exact g _ _ (m6 i u q (by simpa using hi) hq)
      · by_cases c2 : i < off + vs.length
        · have c3 : i < off + (a.eval y).cells.toList.length := by simp; omega
          simp only [c1, c2, c3, if_false, if_true] at hi hq
          exact g _ _ (h3 (i - off) u q (by simpa using hi) hq)
        · have c3 : ¬ i < off + (a.eval y).cells.toList.length := by simp; omega
          simp only [c1, c2, c3, if_false] at hi hq
          exact g _ _ (m6 i u q (by simpa using hi) hq)

theorem step_store (ha : a.tmps = tm) (hr : Rl P c z F β s tm w) {im : List (Nat × Bool)} (him : ∀ t b, (t, b) ∈ im → tm.getD t undef = .bool b) {t : TypeId} {x y : Operand} {ti : TI} {id off : Nat} {cs vs : List V} (hop : op.op = .store t x y)
    (ht : tlook c.T t = some ti) (hx : res s.e im (evalO c s.e x) = .ptr id off) (hy : cellsX (res s.e im (evalO c s.e y)) = some vs) (ho : olook s.o id = some (.var cs)) (hl : vs.length = ti.sz) (hb : off + ti.sz ≤ cs.length)
    (hk : K ⟨.junk, [], [(id, false, .var (setAt cs off vs))]⟩) : StepTo P c z s tm w a op K :=
  step_store' hr hop ht (hx ▸ res_ra ha hr.toRel him x) (res_ra ha hr.toRel him y) hy ho hl hb hk rfl rfl

theorem CEqL.get {xs ys : List V} (h : CEqL xs ys) {j : Nat} {y : V} (hy : ys[j]? = some y) : ∃ x, xs[j]? = some x ∧ CEq x y := by
  have hlt : j < xs.length := by rw [h.1]; exact (List.getElem?_eq_some_iff.1 hy).1
  exact ⟨xs[j], List.getElem?_eq_getElem hlt, h.2 j _ y (List.getElem?_eq_getElem hlt) hy⟩

theorem step_estore (ha : a.tmps = tm) (hr : Rl P c z F β s tm w) {im : List (Nat × Bool)} (him : ∀ t b, (t, b) ∈ im → tm.getD t undef = .bool b) {t : TypeId} {x y : Operand} {ti : TI} {id off : Nat} {ix : IE} {vs : List V} (hop : op.op = .store t x y)
    (ht : tlook c.T t = some ti) (hx : res s.e im (evalO c s.e x) = .eptr id ix off) (hy : cellsX (res s.e im (evalO c s.e y)) = some vs) {fx : Bool} {e : TypeId} {sz : Nat} {α : Type} {f : α → V} {l : List α} (ho : olook s.o id = some (.arr fx e sz f l))
    (hl : vs.length = ti.sz) (hb : off + ti.sz ≤ sz) (hdat : isDatal vs = true) (hk : EstoreP f l ix off vs (fun l' => K ⟨.junk, [], [(id, false, .arr fx e sz f l')]⟩)) : StepTo P c z s tm w a op K := by
  obtain ⟨h1, h2, h3⟩ := cellsX_ra (res_ra ha hr.toRel him y) hy
  have hxx := res_ra ha hr.toRel him x
  rw [hx] at hxx
  obtain ⟨b, fx1, e1, sz1, n, α1, f1, l1, g1, g2, g3, g4, g5⟩ := RA.of_eptr hxx
  rw [ho] at g2
  simp only [Option.some.injEq, Ent.arr.injEq] at g2
  obtain ⟨rfl, rfl, rfl, rfl, hf, hll⟩ := g2
  have hf := eq_of_heq hf
  have hll := eq_of_heq hll
  subst hf; subst hll
  have hnat : ix.den.toNat = n := by rw [g3]; simp
  rcases hr.own.ent id _ ho with ⟨k1, _⟩ | ⟨b', cur, m1, m2, m3, m4, m5, m6⟩
  · rw [k1] at g1; cases g1
  rw [g1] at m1; cases m1
  obtain ⟨hk⟩ := hk
  have hp : l[ix.den.toNat]? = some l[n] := by rw [hnat]; exact List.getElem?_eq_getElem g4
  have hpn : l[n]? = some l[n] := List.getElem?_eq_getElem g4
  obtain ⟨q1, q2⟩ := m6 n _ hpn
  have hwf : V.wf (f l[n]) := V.wf_of_cells fun j y hy => by
    obtain ⟨cv, _, hcv⟩ := q2 j y hy
    exact hcv.wf
  obtain ⟨p', hp1, hp2⟩ := hk _ hp hwf
  have hk' := hp2 _ rfl
  rw [hnat] at hk'
  have hbd : n * sz + sz ≤ cur.size := by
    have : (n + 1) * sz ≤ l.length * sz := Nat.mul_le_mul_right _ g4
    rw [Nat.add_mul, Nat.one_mul] at this
    omega
  have hsz : (a.eval y).cells.size = ti.sz := h1.trans hl
  have hrun := storeVar_run (w := w) hr.tab ht m3 hsz (off := n * sz + off) (by omega) h2
  have hlen : n * sz + off + (a.eval y).cells.toList.length ≤ cur.toList.length := by simp; omega
  refine StepTo.of_skip (w' := w.setRow b (cur.toList.take (n * sz + off) ++ (a.eval y).cells.toList ++ cur.toList.drop (n * sz + off + (a.eval y).cells.toList.length)).toArray) ?_ hk'
    (hr.write (w' := w.setRow b _) ho g1 (fun b' _ hne => setRow_other w b b' _ hne) rfl rfl ⟨rfl, .inr (Nat.le_refl _)⟩ (by simp)
      (.inr (.inl ⟨_, _, _, _, _, _, _, _, _, rfl, rfl, by simp, fun cur' hc => ⟨_, setRow_heap w b cur _ e (0, 0) m3, by rw [m3] at hc; cases hc; rw [List.size_toArray, seg_size _ _ _ hlen]; simp⟩⟩)) (fun _ hd => ?_)) rfl
  · simp only [execOp, hop, Sem.run_bind, Instr.storeAt, Instr.sureAddr, g5, Sem.run_pure, Result.andThen_ok, hrun]
  · have hcell : (cells (f p')).length = sz := by rw [← hp1.1, setAt_len, q1]
    refine .inr ⟨b, _, g1, m2, setRow_heap w b cur _ e (0, 0) m3, ?_, seg_one m5 (fun u hu => h2 u (by simpa using hu)), fun i p hi => ?_⟩
    · rw [List.size_toArray, seg_size _ _ _ hlen]; simp; omega
    · rw [List.getElem?_set] at hi
      by_cases ei : n = i
      · subst ei
        simp only [g4, if_true, Option.some.injEq] at hi
        subst hi
        refine ⟨hcell, fun j yy hj => ?_⟩
        obtain ⟨xx, hx1, hx2⟩ := hp1.get hj
        rw [setAt_get _ _ _ _ (by omega)] at hx1
        have hjsz : j < sz := by rw [← hcell]; exact (List.getElem?_eq_some_iff.1 hj).1
        rw [List.getElem?_toArray, seg_get _ _ _ _ hlen]
        by_cases c1 : j < off
        · simp only [c1, if_true] at hx1
          obtain ⟨cv, k1, k2⟩ := q2 j xx hx1
          refine ⟨cv, by rw [if_pos (by omega)]; simpa using k1, hx2 _ _ _ (hd _ _ k2)⟩
        · by_cases c2 : j < off + vs.length
          · simp only [c1, c2, if_false, if_true] at hx1
            have hlt : j - off < (a.eval y).cells.size := by omega
            have hcv := Array.getElem?_eq_getElem hlt
            refine ⟨(a.eval y).cells[j - off], ?_, hx2 _ _ _ ?_⟩
            · rw [if_neg (by omega), if_pos (by simp; omega), show n * sz + j - (n * sz + off) = j - off by omega]
              simpa using hcv
            · exact hd _ _ ((h3 (j - off) _ xx hcv hx1).data ((isDatal_iff _).1 hdat xx (List.mem_of_getElem? hx1)))
          · simp only [c1, c2, if_false] at hx1
            obtain ⟨cv, k1, k2⟩ := q2 j xx hx1
            refine ⟨cv, by rw [if_neg (by omega), if_neg (by simp; omega)]; simpa using k1, hx2 _ _ _ (hd _ _ k2)⟩
      · simp only [ei, if_false] at hi
        obtain ⟨r1, r2⟩ := m6 i p hi
        refine ⟨r1, fun j yy hj => ?_⟩
        obtain ⟨cv, k1, k2⟩ := r2 j yy hj
        have hjsz : j < sz := by rw [← r1]; exact (List.getElem?_eq_some_iff.1 hj).1
        refine ⟨cv, ?_, hd _ _ k2⟩
        rw [List.getElem?_toArray, seg_get _ _ _ _ hlen]
        have hne : i * sz + j < n * sz + off ∨ n * sz + off + (a.eval y).cells.toList.length ≤ i * sz + j := by
          simp only [Array.length_toList]
          rcases Nat.lt_or_ge i n with h | h
          · left
            have : (i + 1) * sz ≤ n * sz := Nat.mul_le_mul_right _ h
            rw [Nat.add_mul, Nat.one_mul] at this
            omega
          · right
            have : (n + 1) * sz ≤ i * sz := Nat.mul_le_mul_right _ (by omega)
            rw [Nat.add_mul, Nat.one_mul] at this
            omega
        rcases hne with h | h
        · rw [if_pos h]; simpa using k1
        · rw [if_neg (by omega), if_neg (by omega)]; simpa using k1

end
end Go.Vg
/- The conditions suffice: reading, slicing, making, appending, calling. -/
namespace Go.Vg
open Go

section
variable {P : Program} {c : Ctx} {z : From} {F : Nat → Prop} {β : Bt} {s : St} {tm : Array Value} {w : World} {a : Act} {op : Oper} {K : Out → Prop}

theorem step_eload (ha : a.tmps = tm) (hr : Rl P c z F β s tm w) {im : List (Nat × Bool)} (him : ∀ t b, (t, b) ∈ im → tm.getD t undef = .bool b) {t : TypeId} {x : Operand} {ti : TI} {id off : Nat} {ix : IE} (hop : op.op = .load t x)
    (ht : tlook c.T t = some ti) (hx : res s.e im (evalO c s.e x) = .eptr id ix off) {fx : Bool} {e : TypeId} {sz : Nat} {α : Type} {f : α → V} {l : List α} (ho : olook s.o id = some (.arr fx e sz f l))
    (hk : EloadP f l ix (fun p => match loadX ti ((cells (f p)).drop off) with
      | some v => K ⟨v, [], []⟩
      | none => False)) : StepTo P c z s tm w a op K := by
  have hxx := res_ra ha hr.toRel him x
  rw [hx] at hxx
  obtain ⟨b, fx1, e1, sz1, n, α1, f1, l1, g1, g2, g3, g4, g5⟩ := RA.of_eptr hxx
  rw [ho] at g2
  simp only [Option.some.injEq, Ent.arr.injEq] at g2
  obtain ⟨rfl, rfl, rfl, rfl, hf, hll⟩ := g2
  have hf := eq_of_heq hf
  have hll := eq_of_heq hll
  subst hf; subst hll
  have hnat : ix.den.toNat = n := by rw [g3]; simp
  rcases hr.own.ent id _ ho with ⟨k1, _⟩ | ⟨b', cur, m1, m2, m3, m4, m5, m6⟩
  · rw [k1] at g1; cases g1
  rw [g1] at m1; cases m1
  obtain ⟨hk⟩ := hk
  have hpn : l[n]? = some l[n] := List.getElem?_eq_getElem g4
  obtain ⟨q1, q2⟩ := m6 n _ hpn
  have hwf : V.wf (f l[n]) := V.wf_of_cells fun j y hy => by
    obtain ⟨cv, _, hcv⟩ := q2 j y hy
    exact hcv.wf
  have hk' := hk l[n] (by rw [hnat]; exact hpn) hwf
  have hc : Cells w F β s.o b (n * sz) (cells (f l[n])) := fun j y hj => by
    obtain ⟨cv, k1, k2⟩ := q2 j y hj
    exact ⟨cv, by simp [World.cell?, m3, k1], m5 cv (Array.mem_of_getElem? k1), .d _ _ k2⟩
  split at hk'
  · rename_i v hv
    obtain ⟨val, r1, r2⟩ := loadX_run hr.tab ht (hc.drop off) hv
    exact StepTo.of_run (val := val) (w' := w) (by simp [execOp, hop, Instr.loadAt, Instr.sureAddr, g5, r1]) hk' hr r2
  · cases hk'

theorem slice_ty {T : Tab} (hT : TabOk P T) {t el : TypeId} {q1 q2 : Nat} {q3 : List V} (ht : tlook T t = some ⟨.slice el, q1, q2, q3⟩) : P.underlying t = some (.slice el) := by
  obtain ⟨i1, z1, d1, k1, k2, k3, k4⟩ := hT.ok _ _ ht
  cases d1 <;> simp only [TD.of, reduceCtorEq, TD.slice.injEq] at k3
  rw [k2, k3]
theorem arr_ty {T : Tab} (hT : TabOk P T) {t el : TypeId} {n q1 q2 : Nat} {q3 : List V} (ht : tlook T t = some ⟨.arr n el, q1, q2, q3⟩) : P.underlying t = some (.array n el) := by
  obtain ⟨i1, z1, d1, k1, k2, k3, k4⟩ := hT.ok _ _ ht
  cases d1 <;> simp only [TD.of, reduceCtorEq, TD.arr.injEq] at k3
  rw [k2, k3.1, k3.2]

theorem ieOf_ra {o : Own} {v : Value} {x : V} {ie : IE} (h : RA w F β o v x) (hx : ieOf x = some ie) : ∃ k, v = .int k ie.den ∧ k.has ie.den := by
  cases x <;> simp only [ieOf, Option.some.injEq, reduceCtorEq] at hx
  subst hx
  exact ⟨_, RA.of_int h⟩

theorem indexAt_slice {t el : TypeId} (hu : P.underlying t = some (.slice el)) {T : Tab} (hT : TabOk P T) {ti : TI} (hel : tlook T el = some ti) {k : IntKind} {i : Int} {n len cap : Nat} {b off : Nat} (hi : i = (n : Int)) (hn : n < len) :
    (Instr.indexAt t (.slice (some ⟨b, off, none⟩) len cap) (.int k i)).run P w = .ok (.pointer (some ⟨b, off + n * ti.sz, none⟩)) w := by
  subst hi
  simp [Instr.indexAt, asIntOf, run_underlying hu, hn, sizeOf_run hT hel, Addr.add_at]

theorem elem_rd {v : Value} {x : V} {sz : Nat} {es : List V} (h : RD w F v x) (hx : x.elems = some (sz, es)) {n : Nat} {e : V} (he : es[n]? = some e) : ∃ b off cc, v = .slice (some ⟨b, off, none⟩) es.length cc ∧ RD w F (.pointer (some ⟨b, off + n * sz, none⟩)) (.rptr (cells e)) := by
  cases h with
  | nilsl x sz' hx' => rw [hx] at hx'; cases hx'; simp at he
  | slice x sz' es' hx' hnn ad cc hc hl hs hF hb hsz cv hone hcv hr =>
    rw [hx] at hx'; cases hx'
    obtain ⟨b, off, spot⟩ := ad
    have hne : es ≠ [] := by intro h; rw [h] at he; simp at he
    have hs := hs hne
    simp only at hs; subst hs
    refine ⟨b, off, cc, rfl, .rptr _ _ rfl (hF hne) (hb hne) (fun j => cv n j) (fun j y hj => hone n e he j y hj) (fun j y hj => hcv n e he j y hj) (fun j y hj => hr n e he j y hj)⟩
  | _ => simp [V.elems] at hx

theorem rd_wf_elem {v : Value} {x : V} {sz : Nat} {es : List V} (h : RD w F v x) (hx : x.elems = some (sz, es)) {n : Nat} {e : V} (he : es[n]? = some e) : V.wf e := by
  obtain ⟨_, _, _, _, h2⟩ := elem_rd h hx he
  have := h2.wf
  simp only [V.wf, V.wfl_iff] at this
  exact V.wf_of_cells fun j y hj => this y (List.mem_of_getElem? hj)

theorem step_elem (ha : a.tmps = tm) (hr : Rl P c z F β s tm w) {im : List (Nat × Bool)} (him : ∀ t b, (t, b) ∈ im → tm.getD t undef = .bool b) {t el : TypeId} {x y : Operand} {ti : TI} {ie : IE} {q1 q2 : Nat} {q3 : List V} (hop : op.op = .indexAddr t x y)
    (ht : tlook c.T t = some ⟨.slice el, q1, q2, q3⟩) (hi : ieOf (res s.e im (evalO c s.e y)) = some ie) (hel : tlook c.T el = some ti) {v : V} {es : List V} (hx : res s.e im (evalO c s.e x) = v) (hv : v.elems = some (ti.sz, es)) {n : Nat} {e : V} (hn : ie.den = (n : Int)) (he : es[n]? = some e)
    {J : V → Prop} (hk : J (.rptr (cells e))) : YieldTo P s w F β a op J := by
  have hxx := res_ra ha hr.toRel him x
  rw [hx] at hxx
  obtain ⟨k, hy, _⟩ := ieOf_ra (res_ra ha hr.toRel him y) hi
  obtain ⟨b, off, cc, h1, h2⟩ := elem_rd (RA.of_elems hxx hv) hv he
  have hlt : n < es.length := (List.getElem?_eq_some_iff.1 he).1
  refine ⟨.pointer (some ⟨b, off + n * ti.sz, none⟩), _, fun w' => ?_, (.d _ _ h2), hk⟩
  simp only [execOp, hop, Sem.run_bind, h1, hy, indexAt_slice (slice_ty hr.tab ht) hr.tab hel hn hlt, Result.andThen_ok, Sem.run_pure]

theorem step_oelem (ha : a.tmps = tm) (hr : Rl P c z F β s tm w) {im : List (Nat × Bool)} (him : ∀ t b, (t, b) ∈ im → tm.getD t undef = .bool b) {t el : TypeId} {x y : Operand} {ti : TI} {ie : IE} {q1 q2 : Nat} {q3 : List V} (hop : op.op = .indexAddr t x y)
    (ht : tlook c.T t = some ⟨.slice el, q1, q2, q3⟩) (hi : ieOf (res s.e im (evalO c s.e y)) = some ie) (hel : tlook c.T el = some ti) {id : Nat} (hx : res s.e im (evalO c s.e x) = .osl id) {fx : Bool} {e : TypeId} {α : Type} {f : α → V} {l : List α} (ho : olook s.o id = some (.arr fx e ti.sz f l))
    (h0 : 0 ≤ ie.den) (h1 : ie.den < l.length) {J : V → Prop} (hk : J (.eptr id ie 0)) : YieldTo P s w F β a op J := by
  have hxx := res_ra ha hr.toRel him x
  rw [hx] at hxx
  obtain ⟨k, hy, _⟩ := ieOf_ra (res_ra ha hr.toRel him y) hi
  obtain ⟨fx1, e1, sz1, α1, f1, l1, g1, g2⟩ := RA.of_osl hxx
  rw [ho] at g1
  simp only [Option.some.injEq, Ent.arr.injEq] at g1
  obtain ⟨rfl, rfl, rfl, rfl, hf, hl⟩ := g1
  have hf := eq_of_heq hf
  have hl := eq_of_heq hl
  subst hf; subst hl
  obtain ⟨n, hn⟩ : ∃ n : Nat, ie.den = n := ⟨ie.den.toNat, by omega⟩
  have hlt : n < l.length := by omega
  rcases g2 with ⟨rfl, _⟩ | ⟨b, cc, cur, m1, m2, m3, m4, m5, m6, m7⟩
  · simp at hlt
  · refine ⟨.pointer (some ⟨b, 0 + n * ti.sz, none⟩), _, fun w' => ?_, ?_, hk⟩
    · simp only [execOp, hop, Sem.run_bind, m2, hy, indexAt_slice (slice_ty hr.tab ht) hr.tab hel hn hlt, Result.andThen_ok, Sem.run_pure]
    · rw [Nat.zero_add]
      exact .eptr id 0 b m1 fx e ti.sz ie n f l ho hn hlt

theorem natOf_den {ie : IE} {n : Nat} (h : natOf ie = some n) : ie.den = (n : Int) := by
  unfold natOf at h
  split at h
  · split at h
    · cases h; rfl
    · cases h
  · cases h

/-- An array's element, by its address. -/
theorem step_aelem (ha : a.tmps = tm) (hr : Rl P c z F β s tm w) {im : List (Nat × Bool)} (him : ∀ t b, (t, b) ∈ im → tm.getD t undef = .bool b) {t el : TypeId} {x y : Operand} {ti : TI} {ie : IE} {len q1 q2 : Nat} {q3 : List V} (hop : op.op = .indexAddr t x y)
    (ht : tlook c.T t = some ⟨.arr len el, q1, q2, q3⟩) (hi : ieOf (res s.e im (evalO c s.e y)) = some ie) (hel : tlook c.T el = some ti) {xs ys : List V} (hx : res s.e im (evalO c s.e x) = .rptr xs) {n : Nat} (hn : ie.den = (n : Int)) (hlt : n < len)
    (hys : ∀ (j : Nat) (v : V), ys[j]? = some v → xs[n * ti.sz + j]? = some v) {J : V → Prop} (hk : J (.rptr ys)) : YieldTo P s w F β a op J := by
  have hxx := RA.of_rptr (hx ▸ res_ra ha hr.toRel him x)
  obtain ⟨k, hy, _⟩ := ieOf_ra (res_ra ha hr.toRel him y) hi
  obtain ⟨ad, had⟩ := rptr_val hxx
  have hxx' := hxx
  rw [had] at hxx'
  obtain ⟨b, off, hba, hF, hb, hc⟩ := Cells.of_rptr (o := s.o) (β := β) hxx'
  simp only [Option.some.injEq] at hba
  subst hba
  have hu := arr_ty hr.tab ht
  refine ⟨.pointer (some ⟨b, off + n * ti.sz, none⟩), _, fun w' => ?_, (.d _ _ ?_), hk⟩
  · have h1 : (0 : Int) ≤ ie.den ∧ ie.den < len := by omega
    have h2 : ie.den.toNat = n := by omega
    simp [execOp, hop, Instr.indexAt, asIntOf, hy, had, run_underlying hu, Instr.sureAddr, h1, h2, sizeOf_run hr.tab hel, Addr.add_at]
  · generalize hv : Value.pointer (some (⟨b, off, none⟩ : Addr)) = v at hxx'
    generalize hq : V.rptr xs = xx at hxx'
    cases hxx' with
    | rptr a' xs' hs hF hb cv hone hcv hrr =>
      cases hq; cases hv
      exact .rptr _ _ rfl hF hb (fun j => cv (n * ti.sz + j)) (fun j y hj => hone _ y (hys j y hj)) (fun j y hj => by rw [← hcv _ y (hys j y hj)]; simp [Nat.add_assoc]) (fun j y hj => hrr _ y (hys j y hj))
    | nilsl => cases hv
    | slice => cases hv
    | _ => cases hq
theorem step_velem (ha : a.tmps = tm) (hr : Rl P c z F β s tm w) {im : List (Nat × Bool)} (him : ∀ t b, (t, b) ∈ im → tm.getD t undef = .bool b) {t el : TypeId} {x y : Operand} {ti : TI} {ie : IE} {len q1 q2 : Nat} {q3 : List V} (hop : op.op = .indexAddr t x y)
    (ht : tlook c.T t = some ⟨.arr len el, q1, q2, q3⟩) (hi : ieOf (res s.e im (evalO c s.e y)) = some ie) (hel : tlook c.T el = some ti) {id off : Nat} (hx : res s.e im (evalO c s.e x) = .ptr id off) {n : Nat} (hn : ie.den = (n : Int)) (hlt : n < len)
    {J : V → Prop} (hk : J (.ptr id (off + n * ti.sz))) : YieldTo P s w F β a op J := by
  have hxx := res_ra ha hr.toRel him x
  rw [hx] at hxx
  obtain ⟨k, hy, _⟩ := ieOf_ra (res_ra ha hr.toRel him y) hi
  obtain ⟨b, cs, g1, g2, g3⟩ := RA.of_ptr hxx
  have hu := arr_ty hr.tab ht
  refine ⟨.pointer (some ⟨b, off + n * ti.sz, none⟩), _, fun w' => ?_, (.ptr _ _ b g1 cs g2), hk⟩
  have h1 : (0 : Int) ≤ ie.den ∧ ie.den < len := by omega
  have h2 : ie.den.toNat = n := by omega
  simp [execOp, hop, Instr.indexAt, asIntOf, hy, g3, run_underlying hu, Instr.sureAddr, h1, h2, sizeOf_run hr.tab hel, Addr.add_at]

/-- A part of a slice that nobody writes. -/
theorem sub_rd {v : Value} {sz : Nat} {α : Type} {f : α → V} {l : List α} (h : RD w F v (.sl sz f l)) (lo hi : Nat) (h1 : lo ≤ hi) (h2 : hi ≤ l.length) : ∃ ad cc, v = .slice ad l.length cc ∧ l.length ≤ cc ∧ True ∧
    RD w F (.slice (if cc = lo then ad else ad.map (·.add (lo * sz))) (hi - lo) (cc - lo)) (.sl sz f ((l.drop lo).take (hi - lo))) := by
  have hlen : ((l.drop lo).take (hi - lo)).length = hi - lo := by simp; omega
  generalize hx : V.sl sz f l = x at h
  cases h with
  | nilsl x sz' hx' =>
    subst hx
    simp only [V.elems, Option.some.injEq, Prod.mk.injEq, List.map_eq_nil_iff] at hx'
    obtain ⟨rfl, rfl⟩ := hx'
    refine ⟨none, 0, rfl, by simp, by simp, ?_⟩
    have h1 : lo = 0 := by simp at h2; omega
    have h2 : hi = 0 := by simpa using h2
    subst h1; subst h2
    simp only [Nat.sub_self, if_true]
    exact .nilsl _ sz (by simp [V.elems])
  | slice x sz' es hx' hnn ad cc hc hl hs hF hb hsz cv hone hcv hr =>
    subst hx
    simp only [V.elems, Option.some.injEq, Prod.mk.injEq] at hx'
    obtain ⟨rfl, rfl⟩ := hx'
    have hc' : l.length ≤ cc := by simpa using hc
    refine ⟨some ad, cc, by simp, by simpa using hc, trivial, ?_⟩
    have hget : ∀ (i : Nat) (e : V), (((l.drop lo).take (hi - lo)).map f)[i]? = some e → (l.map f)[lo + i]? = some e := fun i e h => by
      rw [List.getElem?_map, Option.map_eq_some_iff] at h
      obtain ⟨p, hp, rfl⟩ := h
      rw [List.getElem?_take] at hp
      split at hp
      · rw [List.getElem?_drop] at hp; simp [hp]
      · cases hp
    have e1 : hi - lo = (((l.drop lo).take (hi - lo)).map f).length := by simp; omega
    by_cases hcl : cc = lo
    · have h0 : hi - lo = 0 := by omega
      have hnil : (l.drop lo).take (hi - lo) = [] := by simp [h0]
      rw [if_pos hcl, hnil, h0]
      exact .slice _ sz [] (by simp [V.elems]) (by simp) ad (cc - lo) (by simp) (by simp) (by simp) (by simp) (by simp) (by simp) (fun _ _ => undef) (by simp) (by simp) (by simp)
    · by_cases hnl : l = []
      · subst hnl
        have h2' : hi = 0 := by simpa using h2
        subst h2'
        have h1' : lo = 0 := by omega
        subst h1'
        rw [if_neg hcl]
        simp only [Nat.zero_mul, Option.map_some, Nat.sub_self, List.drop_nil, List.take_nil, Nat.sub_zero]
        exact .slice _ sz [] (by simp [V.elems]) (by simp) (ad.add 0) cc (by simp) (by simp) (by simp) (by simp) (by simp) (by simp) (fun _ _ => undef) (by simp) (by simp) (by simp)
      obtain ⟨b, off, spot⟩ := ad
      have hs := hs (by simpa using hnl)
      simp only at hs; subst hs
      rw [if_neg hcl, Option.map_some, Addr.add_at]
      have key : RD w F (.slice (some ⟨b, off + lo * sz, none⟩) (((l.drop lo).take (hi - lo)).map f).length (cc - lo)) (.sl sz f ((l.drop lo).take (hi - lo))) := by
        have hne : ((l.drop lo).take (hi - lo)).map f ≠ [] → l.map f ≠ [] := fun h h' => h (by
          have : l = [] := by simpa using h'
          simp [this])
        refine .slice _ sz _ (by simp [V.elems]) (by simp) ⟨b, off + lo * sz, none⟩ (cc - lo) (by rw [← e1]; omega) (by rw [← e1]; simp only [List.length_map] at hl; omega) (fun _ => rfl) (fun h => hF (hne h)) (fun h => hb (hne h))
          (fun i e h => hsz _ e (hget i e h)) (fun i j => cv (lo + i) j) (fun i e h j y hj => hone _ e (hget i e h) j y hj) (fun i e h j y hj => ?_) (fun i e h j y hj => hr _ e (hget i e h) j y hj)
        rw [← hcv _ e (hget i e h) j y hj, Nat.add_mul]
        simp [Nat.add_assoc]
      rwa [← e1] at key
  | _ => cases hx

theorem sliceBound_run {v : Value} {k : IntKind} {n y : Nat} (hv : v = .int k (n : Int)) (h : n ≤ y) (code : BoundsCode) : (Instr.sliceBound v y code).run P w = .ok n w := by
  subst hv
  have h' : (n : Int) ≤ (y : Int) := by omega
  simp [Instr.sliceBound, asIntOf, h]

theorem sliceAt_run {t el : TypeId} (hu : P.underlying t = some (.slice el)) {T : Tab} (hT : TabOk P T) {ti : TI} (hel : tlook T el = some ti) {ad : Option Addr} {len cap : Nat} {lo hi : Option Value} {l h : Nat} (hlo : (lo = none ∧ l = 0) ∨ ∃ k, lo = some (.int k (l : Int))) (hhi : (hi = none ∧ h = len) ∨ ∃ k, hi = some (.int k (h : Int)))
    (h1 : l ≤ h) (h2 : h ≤ len) (h3 : len ≤ cap) : (Instr.sliceAt t (.slice ad len cap) lo hi none).run P w = .ok (.slice (if cap = l then ad else ad.map (·.add (l * ti.sz))) (h - l) (cap - l)) w := by
  have hb : (Instr.sliceBounds true len cap lo hi none).run P w = .ok (l, h, cap) w := by
    unfold Instr.sliceBounds
    rcases hhi with ⟨rfl, rfl⟩ | ⟨k, rfl⟩ <;> rcases hlo with ⟨rfl, rfl⟩ | ⟨k', rfl⟩
    · simp
    · simp [sliceBound_run (P := P) (w := w) rfl h1]
    · simp [sliceBound_run (P := P) (w := w) rfl (Nat.le_trans h2 h3)]
    · simp [sliceBound_run (P := P) (w := w) rfl h1, sliceBound_run (P := P) (w := w) rfl (Nat.le_trans h2 h3)]
  simp [Instr.sliceAt, run_underlying hu, Instr.slice, hb, sizeOf_run hT hel]

end
end Go.Vg
/- The conditions suffice: making and appending. -/
namespace Go.Vg
open Go

section
variable {P : Program} {c : Ctx} {z : From} {F : Nat → Prop} {β : Bt} {s : St} {tm : Array Value} {w : World} {a : Act} {op : Oper} {K : Out → Prop}

/-- A new block that is data from the start. -/
theorem Rl.newData (hr : Rl P c z F β s tm w) (cv : Array Value) (t : TypeId) : Rl P c z F β s tm { w with heap := w.heap.push (.cells cv t) } ∧
    (∀ v x, RD w F v x → RD { w with heap := w.heap.push (.cells cv t) } F v x) ∧ ¬ F w.heap.size := by
  obtain ⟨h1, h2, _⟩ := hr.world (w' := { w with heap := w.heap.push (.cells cv t) }) (F' := F) (heap_push w _) rfl rfl ⟨rfl, .inr (Nat.le_refl _)⟩ (by simp) (fun _ h => h) (fun _ _ h => h) (fun b h => by have := hr.Flt b h; simp; omega)
  exact ⟨h1, h2, fun h => absurd (hr.Flt _ h) (by omega)⟩

theorem allLen_iff (sz : Nat) (l : List V) (h : allLen sz l = true) : ∀ x, x ∈ l → ∃ cs, cellsX x = some cs ∧ cs.length = sz := by
  induction l with
  | nil => simp
  | cons a r ih =>
    simp only [allLen] at h
    split at h
    · rename_i cs hc
      simp only [Bool.and_eq_true] at h
      intro x hx
      rcases List.mem_cons.1 hx with rfl | hx
      · exact ⟨cs, hc, eqN_true h.1⟩
      · exact ih h.2 x hx
    · cases h
theorem cellsX_cells {x : V} {cs : List V} (h : cellsX x = some cs) : cells x = cs := by
  cases x <;> simp only [cellsX, Option.some.injEq, reduceCtorEq] at h <;> subst h <;> rfl

theorem allLow_iff (l : List Nat) (h : allLow l = true) : ∀ x, x ∈ l → x < 10000 := by
  induction l with
  | nil => simp
  | cons a r ih =>
    simp only [allLow, Bool.and_eq_true] at h
    intro x hx
    rcases List.mem_cons.1 hx with rfl | hx
    · exact ltN_iff.1 h.1
    · exact ih h.2 x hx

theorem inOrder_eq : ∀ (l : List (Nat × Operand)) (n : Nat) (xs : List Operand), inOrder n l = some xs → l = (xs.zipIdx n).map fun x => (x.2, x.1)
  | [], n, xs, h => by simp only [inOrder, Option.some.injEq] at h; subst h; rfl
  | (i, x) :: r, n, xs, h => by
    simp only [inOrder] at h
    cases hb : (eqN i n) with
    | false => rw [hb] at h; cases h
    | true =>
      rw [hb] at h
      simp only [cond_true] at h
      split at h
      · rename_i l hl
        simp only [Option.some.injEq] at h
        subst h
        rw [inOrder_eq r (n + 1) l hl, eqN_true hb]
        simp [List.zipIdx_cons]
      · cases h

/-- Several own lists become data, and values that lean on them. -/
theorem Rl.freezes : ∀ (ids : List Nat) {F : Nat → Prop} {β : Bt} {s : St}, Rl P c z F β s tm w → (∀ x, x ∈ ids → x < 10000) →
    ∃ F' β', Rl P c z F' β' (frz ids s) tm w ∧ (∀ v x, RD w F v x → RD w F' v x) ∧ ∀ (vs : List V) (us : List Value), us.length = vs.length → (∀ (i : Nat) (u : Value) (x : V), us[i]? = some u → vs[i]? = some x → RA w F β s.o u x) →
      (subFz ids s vs).length = vs.length ∧ ∀ (i : Nat) (u : Value) (x : V), us[i]? = some u → (subFz ids s vs)[i]? = some x → RA w F' β' (frz ids s).o u x
  | [], F, β, s, hr, _ => ⟨F, β, hr, fun _ _ h => h, fun vs us _ h => ⟨rfl, h⟩⟩
  | id :: r, F, β, s, hr, hl => by
    obtain ⟨F1, β1, h1, h2, h3⟩ := hr.freeze (X := id) (hl id List.mem_cons_self)
    obtain ⟨F2, β2, g1, g2, g3⟩ := Rl.freezes r h1 (fun x hx => hl x (List.mem_cons_of_mem _ hx))
    refine ⟨F2, β2, g1, fun v x h => g2 _ _ (h2 _ _ h), fun vs us hlen h => ?_⟩
    simp only [subFz]
    obtain ⟨k1, k2⟩ := g3 (vs.map (fsub s id)) us (by simpa using hlen) (fun i u x hi hx => by
      rw [List.getElem?_map, Option.map_eq_some_iff] at hx
      obtain ⟨y, hy, rfl⟩ := hx
      exact h3 _ _ (h i u y hi hy))
    exact ⟨by rw [k1]; simp, k2⟩

theorem step_buildSlice (ha : a.tmps = tm) (hr : Rl P c z F β s tm w) {im : List (Nat × Bool)} (him : ∀ t b, (t, b) ∈ im → tm.getD t undef = .bool b) {t el : TypeId} {n : Nat} {parts : Array (Nat × Operand)} {ti : TI} {q1 q2 : Nat} {q3 : List V} {xs : List Operand}
    (hop : op.op = .buildSlice t n parts) (ht : tlook c.T t = some ⟨.slice el, q1, q2, q3⟩) (ho : inOrder 0 parts.toList = some xs) (hel : tlook c.T el = some ti)
    (hn : xs.length = n) (hd : isDatal (subFz (oslIdsl (xs.map fun x => res s.e im (evalO c s.e x))) s (xs.map fun x => res s.e im (evalO c s.e x))) = true)
    (hlen : allLen ti.sz (subFz (oslIdsl (xs.map fun x => res s.e im (evalO c s.e x))) s (xs.map fun x => res s.e im (evalO c s.e x))) = true)
    (hlow : allLow (oslIdsl (xs.map fun x => res s.e im (evalO c s.e x))) = true) (hbig : n * ti.sz ≤ 16777216) (hpos : 0 < ti.sz)
    (hk : K ⟨.sls ti.sz (subFz (oslIdsl (xs.map fun x => res s.e im (evalO c s.e x))) s (xs.map fun x => res s.e im (evalO c s.e x))), oslIdsl (xs.map fun x => res s.e im (evalO c s.e x)), []⟩) : StepTo P c z s tm w a op K := by
  generalize hids : oslIdsl (xs.map fun x => res s.e im (evalO c s.e x)) = ids at *
  generalize hvs' : subFz ids s (xs.map fun x => res s.e im (evalO c s.e x)) = vs' at *
  obtain ⟨F1, β1, h1, h2, h3⟩ := Rl.freezes ids hr (allLow_iff _ hlow)
  obtain ⟨k1, k2⟩ := h3 (xs.map fun x => res s.e im (evalO c s.e x)) (xs.map a.eval) (by simp) (fun i u x hi hx => by
    rw [List.getElem?_map, Option.map_eq_some_iff] at hi hx
    obtain ⟨y, hy, rfl⟩ := hi
    obtain ⟨y', hy', rfl⟩ := hx
    rw [hy] at hy'; cases hy'
    exact res_ra ha hr.toRel him y)
  rw [hvs'] at k1 k2
  have hvl : vs'.length = n := by rw [k1]; simpa using hn
  obtain ⟨info, zv, desc, t1, t2, t3, t4, t5, t6, t7, t8, t9, t10⟩ := hr.tab.ok el ti hel
  have hcell : ∀ (i : Nat) (u : Value) (x : V), (xs.map a.eval)[i]? = some u → vs'[i]? = some x → u.cells.size = ti.sz ∧ (∀ q, q ∈ u.cells → q.oneCell' = true) ∧ (cells x).length = ti.sz ∧ ∀ (j : Nat) (q : Value) (y : V), u.cells[j]? = some q → (cells x)[j]? = some y → RD w F1 q y := by
    intro i u x hi hx
    obtain ⟨cs, hc1, hc2⟩ := allLen_iff _ _ hlen x (List.mem_of_getElem? hx)
    obtain ⟨m1, m2, m3⟩ := cellsX_ra (k2 i u x hi hx) hc1
    have hxd : isData x = true := (isDatal_iff _).1 hd x (List.mem_of_getElem? hx)
    rw [cellsX_cells hc1]
    refine ⟨m1.trans hc2, m2, hc2, fun j q y hq hy => (m3 j q y hq hy).data ?_⟩
    cases x <;> simp only [cellsX, Option.some.injEq, reduceCtorEq] at hc1 <;> subst hc1 <;> first
      | (simp only [isData, isDatal_iff] at hxd; exact hxd y (List.mem_of_getElem? hy))
      | (cases j with
         | zero => simp at hy; subst hy; exact hxd
         | succ j => simp at hy)
  have hpl : (parts.map fun (i, x) => (i, a.eval x)).toList = ((xs.map a.eval).zipIdx 0).map fun x => (x.2, x.1) := by
    rw [Array.toList_map, inOrder_eq _ _ _ ho, List.zipIdx_map, List.map_map, List.map_map]
    rfl
  have hu := slice_ty hr.tab ht
  have hvlim : vs'.length ≤ LIM := by
    have : n * 1 ≤ n * ti.sz := Nat.mul_le_mul_left _ hpos
    unfold LIM; omega
  have key : ∀ (cv : Array Value), (Instr.buildSlice t n (parts.map fun (i, x) => (i, a.eval x))).run P w = .ok (.slice (some ⟨w.heap.size, 0, none⟩) n n) { w with heap := w.heap.push (.cells cv el) } →
      (∀ (i : Nat) (u : Value) (j : Nat), (xs.map a.eval)[i]? = some u → j < ti.sz → cv[i * ti.sz + j]? = u.cells[j]?) → StepTo P c z s tm w a op K := by
    intro cv hrun hcv
    obtain ⟨g1, g2, g3⟩ := h1.newData cv el
    refine StepTo.of_run (val := .slice (some ⟨w.heap.size, 0, none⟩) n n) ?_ hk g1 (.d _ _ ?_)
    · simp only [execOp, hop, Sem.run_bind, hrun, Result.andThen_ok, Sem.run_pure]
    · rw [← hvl]
      have hget : ∀ (i : Nat) (e : V), vs'[i]? = some e → ∃ u, (xs.map a.eval)[i]? = some u := fun i e he => by
        have : i < (xs.map a.eval).length := by simp only [List.length_map, hn, ← hvl]; exact (List.getElem?_eq_some_iff.1 he).1
        exact ⟨_, List.getElem?_eq_getElem this⟩
      refine .slice _ ti.sz vs' (by simp [V.elems]) (by simp) ⟨w.heap.size, 0, none⟩ vs'.length (Nat.le_refl _) hvlim (fun _ => rfl) (fun _ => g3) (fun _ => by simp) (fun i e he => ?_) (fun i j => (cv[i * ti.sz + j]?).getD undef)
        (fun i e he j y hy => ?_) (fun i e he j y hy => ?_) (fun i e he j y hy => ?_)
      all_goals obtain ⟨u, hu'⟩ := hget i e he
      all_goals obtain ⟨m1, m2, m3, m4⟩ := hcell i u e hu' he
      · exact m3
      all_goals
        have hj : j < ti.sz := by rw [← m3]; exact (List.getElem?_eq_some_iff.1 hy).1
        have hjc : j < u.cells.size := by omega
        have hq := hcv i u j hu' hj
        rw [Array.getElem?_eq_getElem hjc] at hq
      · simp only [hq, Option.getD_some]; exact m2 _ (by simp)
      · simp [World.cell?, hq]
      · simp only [hq, Option.getD_some]; exact g2 _ _ (m4 j _ y (Array.getElem?_eq_getElem hjc) hy)
  by_cases hz : n * ti.sz = 0
  · have hn0 : n = 0 := by
      rcases Nat.mul_eq_zero.1 hz with h | h
      · exact h
      · omega
    have hxs : xs = [] := List.eq_nil_of_length_eq_zero (by omega)
    refine key #[] ?_ (fun i u j hi => by rw [hxs] at hi; simp at hi)
    subst hn0
    rw [hxs] at hpl
    have hp : parts = #[] := by simpa using hpl
    rw [hp]
    simp [Instr.buildSlice, run_underlying hu, sizeOf_run hr.tab hel, Instr.fill, newRow, Array.range_zero']
  · obtain ⟨r, r1, r2, r3⟩ := Great.fill_dense hpos (xs.map a.eval) 0 ((Array.range (n * info.size)).map (zv.cells[· % zv.cells.size]!)) (fun v hv => by
        obtain ⟨i, hi⟩ := mem_of_getElem? hv
        have hlt : i < vs'.length := by rw [hvl, ← hn]; have := (List.getElem?_eq_some_iff.1 hi).1; simpa using this
        exact (hcell i v _ hi (List.getElem?_eq_getElem hlt)).1) (by simp [hn, t4])
    refine key r ?_ (fun i u j hi hj => ?_)
    · have hb' : ¬ n * info.size > 2 ^ 24 := by rw [t4]; omega
      have := run_buildSlice (P := P) w t el n (parts.map fun (i, x) => (i, a.eval x)) r info zv hu t1 t6 hb' (by rw [t4]; exact hz) (by rw [hpl, t4]; rw [t4] at r1; exact r1)
      rw [this]; rfl
    · have hin : i < xs.length := by have := (List.getElem?_eq_some_iff.1 hi).1; simpa using this
      rw [r3]
      have hd1 : (i * ti.sz + j) / ti.sz = i := by
        rw [Nat.mul_comm, Nat.mul_add_div hpos, Nat.div_eq_of_lt hj]; rfl
      have hd2 : (i * ti.sz + j) % ti.sz = j := by
        rw [Nat.mul_comm, Nat.mul_add_mod, Nat.mod_eq_of_lt hj]
      have hle : i * ti.sz + j < (0 + (xs.map a.eval).length) * ti.sz := by
        have : (i + 1) * ti.sz ≤ xs.length * ti.sz := Nat.mul_le_mul_right _ hin
        rw [Nat.add_mul, Nat.one_mul] at this
        simp only [List.length_map, Nat.zero_add]; omega
      rw [if_pos ⟨by omega, hle⟩, hd1, hd2, Nat.sub_zero, hi]
      rfl

/-- How a state is left by a slicing. -/
theorem step_sub (ha : a.tmps = tm) (hr : Rl P c z F β s tm w) {im : List (Nat × Bool)} (him : ∀ t b, (t, b) ∈ im → tm.getD t undef = .bool b) {t el : TypeId} {x : Operand} {lo hi : Option Operand} {ti : TI} {q1 q2 : Nat} {q3 : List V} {l0 : IE} {h0 : Option IE}
    (ht : tlook c.T t = some ⟨.slice el, q1, q2, q3⟩) (hel : tlook c.T el = some ti)
    (hlo : (match lo with
        | some y => ieOf (res s.e im (evalO c s.e y))
        | none => some (.lit 0)) = some l0)
    (hhi : (match hi with
        | some y => (match ieOf (res s.e im (evalO c s.e y)) with
          | some e => some (some e)
          | none => none)
        | none => some none) = some h0) (hop : op.op = .slice t x lo hi none)
    {F1 : Nat → Prop} {α : Type} {f : α → V} {l : List α} (hx : RD w F1 (a.eval x) (.sl ti.sz f l))
    {J : V → Prop} (hk : SubP l l0 (h0.getD (.len l)) (fun l' => J (.sl ti.sz f l'))) :
    ∃ v x, (∀ w', (execOp a.eval op).run P w' = .ok (.value v) w') ∧ RD w F1 v x ∧ J x := by
  obtain ⟨lo', hi', ha1, ha2, ha3, ha4, hk⟩ := hk
  obtain ⟨ad, cc, e1, e2, _, e3⟩ := sub_rd hx lo' hi' ha3 ha4
  have hrun := fun w' => sliceAt_run (P := P) (w := w') (ad := ad) (len := l.length) (cap := cc) (lo := lo.map a.eval) (hi := hi.map a.eval) (l := lo') (h := hi') (slice_ty hr.tab ht) hr.tab hel ?h1 ?h2 ha3 ha4 e2
  · refine ⟨_, _, fun w' => ?_, e3, hk _ rfl⟩
    simp only [execOp, hop, Sem.run_bind, e1, hrun, Option.map_none, Result.andThen_ok, Sem.run_pure]
  · cases lo with
    | none => simp only [Option.some.injEq] at hlo; subst hlo; simp only [IE.den] at ha1; exact .inl ⟨rfl, by omega⟩
    | some y =>
      simp only at hlo
      obtain ⟨k, hy, _⟩ := ieOf_ra (res_ra ha hr.toRel him y) hlo
      exact .inr ⟨k, by simp [hy, ha1]⟩
  · cases hi with
    | none =>
      simp only [Option.some.injEq] at hhi; subst hhi
      simp only [Option.getD_none, IE.den] at ha2
      exact .inl ⟨rfl, by omega⟩
    | some y =>
      simp only at hhi
      split at hhi
      · rename_i e he
        simp only [Option.some.injEq] at hhi; subst hhi
        obtain ⟨k, hy, _⟩ := ieOf_ra (res_ra ha hr.toRel him y) he
        simp only [Option.getD_some] at ha2
        exact .inr ⟨k, by simp [hy, ha2]⟩
      · cases hhi

end
end Go.Vg
/- The conditions suffice: make, build, append, calls. -/
namespace Go.Vg
open Go

section
variable {P : Program} {c : Ctx} {z : From} {F : Nat → Prop} {β : Bt} {s : St} {tm : Array Value} {w : World} {a : Act} {op : Oper} {K : Out → Prop}

/-- A new own list. -/
theorem Rl.newArr (hr : Rl P c z F β s tm w) {d : Nat} (hd : d < 10000 ∨ (∀ ent, olook z.o d = some ent → pinned ent = false)) {cur : Array Value} {e : TypeId} {sz : Nat} {α : Type} {f : α → V} {l : List α} {cc : Nat} (hc : l.length ≤ cc) (hm : cc ≤ maxLen) (hl : l.length ≤ LIM) (hcap : cur.size = cc * sz) (h2 : ∀ u, u ∈ cur → u.oneCell' = true)
    (h3 : ∀ (i : Nat) p, l[i]? = some p → (cells (f p)).length = sz ∧ ∀ (j : Nat) (y : V), (cells (f p))[j]? = some y → ∃ cv, cur[i * sz + j]? = some cv ∧ RD w F cv y) {w0 : World} (hw0 : w0.heap = w.heap ∧ w0.os = w.os ∧ w0.tape = w.tape ∧ OutLe w w0) :
    ∃ F' β', Rl P c z F' β' (up1 s (d, true, .arr false e sz f l)) tm { w0 with heap := w0.heap.push (.cells cur e) } ∧
      RA { w0 with heap := w0.heap.push (.cells cur e) } F' β' (up1 s (d, true, .arr false e sz f l)).o (.slice (some ⟨w.heap.size, 0, none⟩) l.length cc) (.osl d) := by
  obtain ⟨hw1, hw2, hw3, hw4⟩ := hw0
  let w' : World := { w0 with heap := w0.heap.push (.cells cur e) }
  let F' : Nat → Prop := fun b => F b ∨ b = w.heap.size
  have hk : ∀ b, b < w.heap.size → w'.heap[b]? = w.heap[b]? := fun b hb => by simp only [w', hw1]; exact heap_push w _ b hb
  have hF2 : ∀ b, b < w.heap.size → F' b → F b := fun b hb h => h.resolve_right (by omega)
  have hsz : w.heap.size ≤ w'.heap.size := by simp [w', hw1]
  have hd' := hd_of (w := w) (w' := w') (F := F) (F' := F') (fun b hb _ => hk b hb) hF2 hsz
  have hnew : w'.heap[w.heap.size]? = some (.cells cur e (0, 0)) := by simp [w', hw1]
  have hR := hr.anew (w' := w') (F' := F') (X := d) (nb := some w.heap.size) (ent := .arr false e sz f l) hd (fun b hb _ => hk b hb) hw2 hw3 ⟨hw4.out, hw4.drawn⟩ hsz (fun b h => .inl h) hF2
    (fun b h => by rcases h with h | h; (· have := hr.Flt b h; simp [w', hw1]; omega); (· simp [w', h, hw1])) (fun b hb => by cases hb; exact .inl (Nat.le_refl _)) ?_
  · exact ⟨F', _, hR, .osl d w.heap.size (by simp) false e sz f l cc (by simp [up1, olook, Ent.sub]) hc hm hl cur hnew hcap⟩
  · refine .inr ⟨w.heap.size, cur, by simp, .inr rfl, hnew, by rw [hcap]; exact Nat.mul_le_mul_right _ hc, h2, fun i p hp => ⟨(h3 i p hp).1, fun j y hy => ?_⟩⟩
    obtain ⟨cv, k1, k2⟩ := (h3 i p hp).2 j y hy
    exact ⟨cv, k1, hd' _ _ k2⟩

/-- A list of no elements, as an own one. -/
theorem step_buildEmpty (ha : a.tmps = tm) (hr : Rl P c z F β s tm w) {t el : TypeId} {n : Nat} {parts : Array (Nat × Operand)} {ti : TI} {q1 q2 : Nat} {q3 : List V} {xs : List Operand} {d : Nat}
    (hop : op.op = .buildSlice t n parts) (ht : tlook c.T t = some ⟨.slice el, q1, q2, q3⟩) (hxs : xs.length = 0) (ho : inOrder 0 parts.toList = some xs) (hel : tlook c.T el = some ti) (hn : n = 0) (hd : d < 10000) {α : Type} (f : α → V)
    (hk : K ⟨.osl d, [], [(d, true, .arr false el ti.sz f [])]⟩) : StepTo P c z s tm w a op K := by
  subst hn
  have hxs := List.eq_nil_of_length_eq_zero hxs
  subst hxs
  have hp : parts = #[] := by
    have := inOrder_eq _ _ _ ho
    simpa using this
  have hu := slice_ty hr.tab ht
  obtain ⟨F', β', g1, g2⟩ := hr.newArr (d := d) (.inl hd) (cur := #[]) (e := el) (sz := ti.sz) (f := f) (l := []) (cc := 0) (Nat.le_refl _) (by simp [maxLen]) (by simp) (by simp) (by simp) (by simp) (w0 := w) ⟨rfl, rfl, rfl, rfl, .inr (Nat.le_refl _)⟩
  refine StepTo.of_run (val := .slice (some ⟨w.heap.size, 0, none⟩) 0 0) ?_ hk g1 g2
  rw [hp] at hop
  simp only [execOp, hop, Sem.run_bind, List.map_toArray, List.map_nil]
  simp [Instr.buildSlice, run_underlying hu, sizeOf_run hr.tab hel, Instr.fill, newRow, Array.range_zero']

/-- A list of elements, as an own one. -/
theorem step_buildOwn (ha : a.tmps = tm) (hr : Rl P c z F β s tm w) {im : List (Nat × Bool)} (him : ∀ t b, (t, b) ∈ im → tm.getD t undef = .bool b) {t el : TypeId} {n : Nat} {parts : Array (Nat × Operand)} {ti : TI} {q1 q2 : Nat} {q3 : List V} {xs : List Operand} {d : Nat}
    (hop : op.op = .buildSlice t n parts) (ht : tlook c.T t = some ⟨.slice el, q1, q2, q3⟩) (ho : inOrder 0 parts.toList = some xs) (hel : tlook c.T el = some ti)
    (hn : xs.length = n) (hn0 : n ≠ 0) (hids : oslIdsl (xs.map fun x => res s.e im (evalO c s.e x)) = [])
    (hd : isDatal (xs.map fun x => res s.e im (evalO c s.e x)) = true) (hlen : allLen ti.sz (xs.map fun x => res s.e im (evalO c s.e x)) = true) (hbig : n * ti.sz ≤ 16777216) (hpos : 0 < ti.sz) (hdd : d < 10000)
    {α : Type} {f : α → V} {l : List α} (hl : (xs.map fun x => res s.e im (evalO c s.e x)).length = l.length) (hc : ∀ (i : Nat) (e : V) (p : α), (xs.map fun x => res s.e im (evalO c s.e x))[i]? = some e → l[i]? = some p → VEq e (f p))
    (hk : K ⟨.osl d, [], [(d, true, .arr false el ti.sz f l)]⟩) : StepTo P c z s tm w a op K := by
  generalize hvs' : (xs.map fun x => res s.e im (evalO c s.e x)) = vs' at *
  have k2 : ∀ (i : Nat) (u : Value) (x : V), (xs.map a.eval)[i]? = some u → vs'[i]? = some x → RA w F β s.o u x := fun i u x hi hx => by
    rw [← hvs', List.getElem?_map, Option.map_eq_some_iff] at hx
    rw [List.getElem?_map, Option.map_eq_some_iff] at hi
    obtain ⟨y, hy, rfl⟩ := hi
    obtain ⟨y', hy', rfl⟩ := hx
    rw [hy] at hy'; cases hy'
    exact res_ra ha hr.toRel him y
  have hvl : vs'.length = n := by rw [← hvs']; simpa using hn
  have hln : l.length = n := by omega
  obtain ⟨info, zv, desc, t1, t2, t3, t4, t5, t6, t7, t8, t9, t10⟩ := hr.tab.ok el ti hel
  have hcell : ∀ (i : Nat) (u : Value) (x : V), (xs.map a.eval)[i]? = some u → vs'[i]? = some x → u.cells.size = ti.sz ∧ (∀ q, q ∈ u.cells → q.oneCell' = true) ∧ (cells x).length = ti.sz ∧ ∀ (j : Nat) (q : Value) (y : V), u.cells[j]? = some q → (cells x)[j]? = some y → RD w F q y := by
    intro i u x hi hx
    obtain ⟨cs, hc1, hc2⟩ := allLen_iff _ _ hlen x (List.mem_of_getElem? hx)
    obtain ⟨m1, m2, m3⟩ := cellsX_ra (k2 i u x hi hx) hc1
    have hxd : isData x = true := (isDatal_iff _).1 hd x (List.mem_of_getElem? hx)
    rw [cellsX_cells hc1]
    refine ⟨m1.trans hc2, m2, hc2, fun j q y hq hy => (m3 j q y hq hy).data ?_⟩
    cases x <;> simp only [cellsX, Option.some.injEq, reduceCtorEq] at hc1 <;> subst hc1 <;> first
      | (simp only [isData, isDatal_iff] at hxd; exact hxd y (List.mem_of_getElem? hy))
      | (cases j with
         | zero => simp at hy; subst hy; exact hxd
         | succ j => simp at hy)
  have hpl : (parts.map fun (i, x) => (i, a.eval x)).toList = ((xs.map a.eval).zipIdx 0).map fun x => (x.2, x.1) := by
    rw [Array.toList_map, inOrder_eq _ _ _ ho, List.zipIdx_map, List.map_map, List.map_map]
    rfl
  have hu := slice_ty hr.tab ht
  have hnn : n ≤ 16777216 := by
    have : n * 1 ≤ n * ti.sz := Nat.mul_le_mul_left _ hpos
    omega
  have hz : ¬ n * ti.sz = 0 := fun h => by
    rcases Nat.mul_eq_zero.1 h with h | h <;> omega
  have hsz0 : ((Array.range (n * info.size)).map (zv.cells[· % zv.cells.size]!)).size = n * ti.sz := by simp [t4]
  obtain ⟨r, r1, r2, r3⟩ := Great.fill_dense hpos (xs.map a.eval) 0 ((Array.range (n * info.size)).map (zv.cells[· % zv.cells.size]!)) (fun v hv => by
      obtain ⟨i, hi⟩ := mem_of_getElem? hv
      have hlt : i < vs'.length := by rw [hvl, ← hn]; have := (List.getElem?_eq_some_iff.1 hi).1; simpa using this
      exact (hcell i v _ hi (List.getElem?_eq_getElem hlt)).1) (by simp [hn, t4])
  rw [hsz0] at r2
  have hrun : (Instr.buildSlice t n (parts.map fun (i, x) => (i, a.eval x))).run P w = .ok (.slice (some ⟨w.heap.size, 0, none⟩) n n) { w with heap := w.heap.push (.cells r el) } := by
    have hb' : ¬ n * info.size > 2 ^ 24 := by rw [t4]; omega
    have := run_buildSlice (P := P) w t el n (parts.map fun (i, x) => (i, a.eval x)) r info zv hu t1 t6 hb' (by rw [t4]; exact hz) (by rw [hpl, t4]; rw [t4] at r1; exact r1)
    rw [this]; rfl
  have hget : ∀ (i j : Nat), i < n → j < ti.sz → ∃ (u : Value) (e : V), (xs.map a.eval)[i]? = some u ∧ vs'[i]? = some e ∧ r[i * ti.sz + j]? = u.cells[j]? := fun i j hi hj => by
    have h1 : i < (xs.map a.eval).length := by simp only [List.length_map]; omega
    have h2 : i < vs'.length := by omega
    refine ⟨_, _, List.getElem?_eq_getElem h1, List.getElem?_eq_getElem h2, ?_⟩
    rw [r3]
    have hd1 : (i * ti.sz + j) / ti.sz = i := by
      rw [Nat.mul_comm, Nat.mul_add_div hpos, Nat.div_eq_of_lt hj]; rfl
    have hd2 : (i * ti.sz + j) % ti.sz = j := by
      rw [Nat.mul_comm, Nat.mul_add_mod, Nat.mod_eq_of_lt hj]
    have hle : i * ti.sz + j < (0 + (xs.map a.eval).length) * ti.sz := by
      have : (i + 1) * ti.sz ≤ xs.length * ti.sz := Nat.mul_le_mul_right _ (by omega)
      rw [Nat.add_mul, Nat.one_mul] at this
      simp only [List.length_map, Nat.zero_add]; omega
    rw [if_pos ⟨by omega, hle⟩, hd1, hd2, Nat.sub_zero, List.getElem?_eq_getElem h1]
    rfl
  obtain ⟨F', β', g1, g2⟩ := hr.newArr (d := d) (.inl hdd) (cur := r) (e := el) (sz := ti.sz) (f := f) (l := l) (cc := n) (by omega) (by simp only [maxLen]; omega) (by unfold LIM; omega) r2
    (fun u hu' => by
      obtain ⟨k, hk', rfl⟩ := Array.mem_iff_getElem.1 hu'
      have hkn : k < n * ti.sz := by omega
      have hkd : k / ti.sz < n := (Nat.div_lt_iff_lt_mul hpos).2 hkn
      obtain ⟨u, e, m1, m2, m3⟩ := hget (k / ti.sz) (k % ti.sz) hkd (Nat.mod_lt _ hpos)
      have hke : k / ti.sz * ti.sz + k % ti.sz = k := by rw [Nat.mul_comm]; exact Nat.div_add_mod k ti.sz
      rw [hke, Array.getElem?_eq_getElem hk'] at m3
      exact (hcell _ u e m1 m2).2.1 _ (Array.mem_of_getElem? m3.symm))
    (fun i p hp => by
      have hi : i < n := by have := (List.getElem?_eq_some_iff.1 hp).1; omega
      obtain ⟨u0, e0, m1, m2, _⟩ := hget i 0 hi hpos
      obtain ⟨c1, c2, c3, c4⟩ := hcell i u0 e0 m1 m2
      have hq := hc i e0 p m2 hp
      refine ⟨by rw [← hq.1]; exact c3, fun j y' hj => ?_⟩
      have hjs : j < ti.sz := by rw [← c3, hq.1]; exact (List.getElem?_eq_some_iff.1 hj).1
      obtain ⟨q, hq1, hq2⟩ := CEqL.get hq hj
      obtain ⟨u, e, m1', m2', m3⟩ := hget i j hi hjs
      rw [m1] at m1'; cases m1'
      have hjc : j < u0.cells.size := by omega
      rw [Array.getElem?_eq_getElem hjc] at m3
      exact ⟨_, m3, hq2 _ _ _ (c4 j _ q (Array.getElem?_eq_getElem hjc) hq1)⟩)
    (w0 := w) ⟨rfl, rfl, rfl, rfl, .inr (Nat.le_refl _)⟩
  rw [hln] at g2
  refine StepTo.of_run (val := .slice (some ⟨w.heap.size, 0, none⟩) n n) ?_ hk g1 g2
  simp only [execOp, hop, Sem.run_bind, hrun, Result.andThen_ok, Sem.run_pure]

theorem madeCells_get {zc : Array Value} {sz n k : Nat} (hz : zc.size = sz) (hs : 0 < sz) (hk : k < n * sz) : (madeCells zc (n * sz))[k]? = zc[k % sz]? := by
  have : k % sz < zc.size := by rw [hz]; exact Nat.mod_lt _ hs
  simp [madeCells, hk, hz]
  rw [Array.getElem?_eq_getElem this, getElem!_pos zc (k % sz) this]

theorem step_make (ha : a.tmps = tm) (hr : Rl P c z F β s tm w) {im : List (Nat × Bool)} (him : ∀ t b, (t, b) ∈ im → tm.getD t undef = .bool b) {t el : TypeId} {x y : Operand} {d : Nat} {ti : TI} {q1 q2 : Nat} {q3 : List V} {n : IE}
    (hop : op.op = .makeSlice t x y) (ht : tlook c.T t = some ⟨.slice el, q1, q2, q3⟩) (hn : ieOf (res s.e im (evalO c s.e x)) = some n) (hxy : a.eval y = a.eval x ∨ ∃ k k' i, a.eval x = .int k i ∧ a.eval y = .int k' i) (hel : tlook c.T el = some ti) (hd : d < 10000)
    (hk : MakeP ti.bytes n ti.zero (fun _ f l => K ⟨.osl d, [], [(d, true, .arr false el ti.sz f l)]⟩)) (hpos : 0 < ti.sz) : StepTo P c z s tm w a op K := by
  obtain ⟨f, x0, m, hm, hb, hlim, hz, hk⟩ := hk
  obtain ⟨k, hx, _⟩ := ieOf_ra (res_ra ha hr.toRel him x) hn
  rw [hm] at hx
  obtain ⟨k', hy⟩ : ∃ k', a.eval y = .int k' (m : Int) := by
    rcases hxy with h | ⟨k1, k2, i, h1, h2⟩
    · exact ⟨k, h.trans hx⟩
    · rw [hx] at h1; cases h1; exact ⟨k2, h2⟩
  obtain ⟨info, zv, desc, t1, t2, t3, t4, t5, t6, t7, t8, t9, t10⟩ := hr.tab.ok el ti hel
  have hu := slice_ty hr.tab ht
  have hb' : (info.bytes : Int) * (m : Int) ≤ 281474976710656 := by
    rw [t5]
    have h : ((ti.bytes * m : Nat) : Int) ≤ 281474976710656 := by rw [Nat.mul_comm]; omega
    rwa [Int.natCast_mul] at h
  have hrun := run_make (P := P) w t el info zv hu t1 t6 k k' (m : Int) (m : Int) (by omega) (Int.le_refl _) hb' (by unfold LIM at hlim; omega)
  simp only [Int.toNat_natCast] at hrun
  have hzsz : zv.cells.size = ti.sz := t8
  have hlen : (cells (f x0)).length = ti.sz := by rw [← hz.1, ← t7]; simp [hzsz]
  obtain ⟨F', β', g1, g2⟩ := hr.newArr (d := d) (.inl hd) (cur := madeCells zv.cells (m * info.size)) (e := el) (sz := ti.sz) (f := f) (l := List.replicate m x0) (cc := m) (by simp) (by unfold LIM at hlim; simp only [maxLen]; omega) (by simpa using hlim) (by rw [size_madeCells, t4])
    (fun u hu' => by
      obtain ⟨i, hi, rfl⟩ := Array.mem_iff_getElem.1 hu'
      have h1 : i < m * ti.sz := by rw [size_madeCells, t4] at hi; exact hi
      have h2 := madeCells_get (zc := zv.cells) hzsz hpos h1
      have h3 : (madeCells zv.cells (m * info.size))[i]? = some (madeCells zv.cells (m * info.size))[i] := Array.getElem?_eq_getElem hi
      rw [← t4] at h2
      rw [h3] at h2
      exact t9 _ (Array.mem_of_getElem? h2.symm))
    (fun i p hp => by
      have hpx : p = x0 := by
        have := List.mem_of_getElem? hp
        exact (List.mem_replicate.1 this).2
      have hi : i < m := by have := (List.getElem?_eq_some_iff.1 hp).1; simpa using this
      subst hpx
      refine ⟨hlen, fun j y' hj => ?_⟩
      have hjs : j < ti.sz := by rw [← hlen]; exact (List.getElem?_eq_some_iff.1 hj).1
      have hlt : i * ti.sz + j < m * ti.sz := by
        have : (i + 1) * ti.sz ≤ m * ti.sz := Nat.mul_le_mul_right _ hi
        rw [Nat.add_mul, Nat.one_mul] at this; omega
      have h2 := madeCells_get (zc := zv.cells) hzsz hpos hlt
      rw [Nat.mul_comm i, Nat.mul_add_mod, Nat.mod_eq_of_lt hjs] at h2
      have hjz : j < zv.cells.size := by omega
      refine ⟨zv.cells[j], by rw [t4, Nat.mul_comm i, h2]; exact Array.getElem?_eq_getElem hjz, ?_⟩
      obtain ⟨q, hq1, hq2⟩ := hz.get hj
      rw [← t7, List.getElem?_map, Option.map_eq_some_iff] at hq1
      obtain ⟨u, hu1, rfl⟩ := hq1
      have : zv.cells.toList[j]? = some zv.cells[j] := by simp [hjz]
      rw [this] at hu1; cases hu1
      exact hq2 _ _ _ (constV_rd w F _))
    (w0 := w) ⟨rfl, rfl, rfl, rfl, .inr (Nat.le_refl _)⟩
  refine StepTo.of_run ?_ (hk _ rfl) g1 g2
  simp only [execOp, hop, Sem.run_bind, hx, hy, hrun, Result.andThen_ok, Sem.run_pure, List.length_replicate]
  rfl

theorem fillX_run {im : List (Nat × Bool)} (hres : ∀ x, RA w F β s.o (a.eval x) (res s.e im (evalO c s.e x))) {place place' : Nat → Option (Nat × Nat)} (hpp : ∀ i q, place i = some q → place' i = some q) : ∀ (parts : List (Nat × Operand)) (cv : Array Value) (cs : List V) (cs' : List V),
    cv.size = cs.length → (∀ u, u ∈ cv → u.oneCell' = true) → (∀ (i : Nat) (u : Value) (y : V), cv[i]? = some u → cs[i]? = some y → RA w F β s.o u y) → fillX c s.e im place parts cs = some cs' →
    ∃ cv', Instr.fill place' cv (parts.map fun (i, x) => (i, a.eval x)) = some cv' ∧ cv'.size = cs'.length ∧ (∀ u, u ∈ cv' → u.oneCell' = true) ∧ ∀ (i : Nat) (u : Value) (y : V), cv'[i]? = some u → cs'[i]? = some y → RA w F β s.o u y
  | [], cv, cs, cs', h1, h2, h3, h => by
    simp only [fillX, Option.some.injEq] at h; subst h
    exact ⟨cv, rfl, h1, h2, h3⟩
  | (i, x) :: r, cv, cs, cs', h1, h2, h3, h => by
    simp only [fillX] at h
    split at h
    · rename_i off sz vs hp hv
      obtain ⟨k1, k2, k3⟩ := cellsX_ra (hres x) hv
      cases hb : (eqN vs.length sz) && (leN (off + sz) cs.length) with
      | false => rw [hb] at h; cases h
      | true =>
        rw [hb] at h
        simp only [cond_true] at h
        simp only [Bool.and_eq_true] at hb
        have hb1 := eqN_true hb.1
        have hb2 := leN_true hb.2
        obtain ⟨g1, g2⟩ := Great.foldl_set off (a.eval x).cells.toList 0 cv
        simp only [Nat.add_zero] at g2
        have hsz : (a.eval x).cells.size = sz := k1.trans hb1
        have hget : ∀ k : Nat, (((a.eval x).cells.toList.zipIdx 0).foldl (fun cs (y : Value × Nat) => cs.setIfInBounds (off + y.2) y.1) cv)[k]? = if k < off then cv[k]? else if k < off + sz then (a.eval x).cells[k - off]? else cv[k]? := fun k => by
          rw [g2 k]
          simp only [Array.length_toList, hsz]
          by_cases c1 : k < off
          · rw [if_neg (by omega), if_pos c1]
          · by_cases c2 : k < off + sz
            · rw [if_pos ⟨by omega, by omega, by omega⟩, if_neg c1, if_pos c2]; simp
            · rw [if_neg (by omega), if_neg c1, if_neg c2]
        obtain ⟨cv', m1, m2, m3, m4⟩ := fillX_run hres hpp r (((a.eval x).cells.toList.zipIdx 0).foldl (fun cs (y : Value × Nat) => cs.setIfInBounds (off + y.2) y.1) cv) (setAt cs off vs) cs'
          (by rw [g1, setAt_len, h1]) (fun u hu => by
            obtain ⟨k, hk, rfl⟩ := Array.mem_iff_getElem.1 hu
            have := hget k
            rw [Array.getElem?_eq_getElem hk] at this
            split at this
            · exact h2 _ (Array.mem_of_getElem? this.symm)
            · split at this
              · exact k2 _ (Array.mem_of_getElem? this.symm)
              · exact h2 _ (Array.mem_of_getElem? this.symm))
          (fun k u y hu hy => by
            rw [hget k] at hu
            rw [setAt_get _ _ _ _ (by omega)] at hy
            by_cases c1 : k < off
            · simp only [c1, if_true] at hu hy
              exact h3 k u y hu hy
            · by_cases c2 : k < off + sz
              · simp only [c1, c2, hb1, if_true, if_false] at hu hy
                exact k3 (k - off) u y hu hy
              · simp only [c1, c2, hb1, if_false] at hu hy
                exact h3 k u y hu hy) h
        refine ⟨cv', ?_, m2, m3, m4⟩
        simp only [List.map_cons]
        unfold Instr.fill
        simp only [hpp _ _ hp]
        rw [if_neg (by simp [hsz]; omega)]
        rw [← m1]
        congr 1
        rw [← Array.foldl_toList, Array.toList_zipIdx]
    · cases h

end
end Go.Vg
/- The conditions suffice: build, append, calls. -/
namespace Go.Vg
open Go

section
variable {P : Program} {c : Ctx} {z : From} {F : Nat → Prop} {β : Bt} {s : St} {tm : Array Value} {w : World} {a : Act} {op : Oper} {K : Out → Prop}

theorem places_of {fs : List Field} (h : ∀ f, f ∈ fs → ((P.info? f.type).map (·.size)).isSome = true) : ∃ places, fs.mapM (fun f => (P.info? f.type).map fun i => (f.offset, i.size)) = some places ∧ ∀ i : Nat, places[i]? = (fs[i]?).bind fun f => (P.info? f.type).map fun i => (f.offset, i.size) := by
  induction fs with
  | nil => exact ⟨[], by simp, by simp⟩
  | cons f r ih =>
    obtain ⟨pl, h1, h2⟩ := ih (fun g hg => h g (List.mem_cons_of_mem _ hg))
    have hf := h f List.mem_cons_self
    cases hi : P.info? f.type with
    | none => simp [hi] at hf
    | some i =>
      refine ⟨(f.offset, i.size) :: pl, by simp [hi, h1], fun k => ?_⟩
      cases k with
      | zero => simp [hi]
      | succ k => simpa using h2 k

theorem zero_ra (hr : Rl P c z F β s tm w) {t : TypeId} {ti : TI} (ht : tlook c.T t = some ti) : ∃ info zv, P.info? t = some info ∧ info.zero = some zv ∧ zv.cells.size = ti.zero.length ∧ (∀ u, u ∈ zv.cells → u.oneCell' = true) ∧
    ∀ (i : Nat) (u : Value) (y : V), zv.cells[i]? = some u → ti.zero[i]? = some y → RA w F β s.o u y := by
  obtain ⟨info, zv, desc, t1, t2, t3, t4, t5, t6, t7, t8, t9, t10⟩ := hr.tab.ok t ti ht
  refine ⟨info, zv, t1, t6, by rw [← t7]; simp, t9, fun i u y hi hy => ?_⟩
  rw [← t7, List.getElem?_map, Option.map_eq_some_iff] at hy
  obtain ⟨u', hu', rfl⟩ := hy
  have : zv.cells.toList[i]? = some u := by simpa using hi
  rw [this] at hu'; cases hu'
  exact .d _ _ (constV_rd w F u)

theorem step_build_struct (ha : a.tmps = tm) (hr : Rl P c z F β s tm w) {im : List (Nat × Bool)} (him : ∀ t b, (t, b) ∈ im → tm.getD t undef = .bool b) {t : TypeId} {parts : Array (Nat × Operand)} {fs : List (Nat × TypeId)} {q1 q2 : Nat} {zero cs : List V}
    (hop : op.op = .build t parts) (ht : tlook c.T t = some ⟨.struct fs, q1, q2, zero⟩)
    (hf : fillX c s.e im (fun i => match nthf fs i with
        | some (off, ft) => match tlook c.T ft with
          | some ti => some (off, ti.sz)
          | none => none
        | none => none) parts.toList zero = some cs) {J : V → Prop} (hk : J (.agg cs)) : YieldTo P s w F β a op J := by
  obtain ⟨info, zv, m1, m2, m3, m4, m5⟩ := zero_ra hr ht
  obtain ⟨info', zv', desc, t1, t2, t3, t4, t5, t6, t7, t8, t9, t10⟩ := hr.tab.ok t _ ht
  cases desc <;> simp only [TD.of, reduceCtorEq, TD.struct.injEq] at t3
  rename_i fields
  obtain ⟨pl, p1, p2⟩ := places_of (P := P) (fs := fields.toList) (t10.1 fields rfl)
  obtain ⟨cv', k1, k2, k3, k4⟩ := fillX_run (place' := (pl.toArray[·]?)) (fun x => res_ra ha hr.toRel him x) (fun i q hq => by
    split at hq
    · rename_i off ft hn
      split at hq
      · rename_i ti hti
        simp only [Option.some.injEq] at hq
        subst hq
        rw [nthf_eq, ← t3] at hn
        simp only [List.getElem?_map, Option.map_eq_some_iff, Prod.mk.injEq] at hn
        obtain ⟨f, hf1, rfl, rfl⟩ := hn
        obtain ⟨i2, z2, d2, u1, u2, u3, u4, u5⟩ := hr.tab.ok _ _ hti
        simp only [List.getElem?_toArray, p2 i, hf1, Option.bind_some, u1, Option.map_some, u4]
      · cases hq
    · cases hq) parts.toList zv.cells zero cs m3 m4 m5 hf
  refine ⟨.agg cv', _, fun w' => ?_, .agg _ _ k2 k3 k4, hk⟩
  have hb : P.built t (parts.map fun (i, x) => (i, a.eval x)).toList = some cv' := by
    unfold Program.built
    simp only [m1, t2, m2, p1]
    rw [Array.toList_map]
    exact k1
  simp only [execOp, hop, Sem.run_bind, run_build w' t _ cv' hb, Result.andThen_ok, Sem.run_pure]

theorem step_build_arr (ha : a.tmps = tm) (hr : Rl P c z F β s tm w) {im : List (Nat × Bool)} (him : ∀ t b, (t, b) ∈ im → tm.getD t undef = .bool b) {t el : TypeId} {parts : Array (Nat × Operand)} {n q1 q2 : Nat} {zero cs : List V} {ti : TI}
    (hop : op.op = .build t parts) (ht : tlook c.T t = some ⟨.arr n el, q1, q2, zero⟩) (hel : tlook c.T el = some ti)
    (hf : fillX c s.e im (fun i => some (i * ti.sz, ti.sz)) parts.toList zero = some cs) {J : V → Prop} (hk : J (.agg cs)) : YieldTo P s w F β a op J := by
  obtain ⟨info, zv, m1, m2, m3, m4, m5⟩ := zero_ra hr ht
  obtain ⟨i2, z2, d2, u1, u2, u3, u4, u5⟩ := hr.tab.ok _ _ hel
  obtain ⟨cv', k1, k2, k3, k4⟩ := fillX_run (place' := fun i => some (i * i2.size, i2.size)) (fun x => res_ra ha hr.toRel him x) (fun i q hq => by rw [u4]; exact hq) parts.toList zv.cells zero cs m3 m4 m5 hf
  refine ⟨.agg cv', _, fun w' => ?_, .agg _ _ k2 k3 k4, hk⟩
  have hb : P.built t (parts.map fun (i, x) => (i, a.eval x)).toList = some cv' := by
    unfold Program.built
    simp only [m1, arr_ty hr.tab ht, m2, u1]
    rw [Array.toList_map]
    exact k1
  simp only [execOp, hop, Sem.run_bind, run_build w' t _ cv' hb, Result.andThen_ok, Sem.run_pure]

/-- The cells of a slice, own or not. -/
theorem vel_cells {o : Own} (ho : OwnOk w F β o) {v : Value} {x : V} {sz : Nat} {es : List V} (h : RA w F β o v x) (hx : velems o x = some (sz, es)) :
    ∃ ad cc, v = .slice ad es.length cc ∧ es.length ≤ LIM ∧ (es ≠ [] → ∃ b off, ad = some ⟨b, off, none⟩ ∧ ∀ (i : Nat) (e : V), es[i]? = some e → (cells e).length = sz ∧ ∀ (j : Nat) (y : V), (cells e)[j]? = some y →
      ∃ cv, w.cell? ⟨b, off + i * sz + j, none⟩ = some cv ∧ cv.oneCell' = true ∧ RD w F cv y) := by
  have data : ∀ x : V, RD w F v x → x.elems = some (sz, es) → ∃ ad cc, v = .slice ad es.length cc ∧ es.length ≤ LIM ∧ (es ≠ [] → ∃ b off, ad = some ⟨b, off, none⟩ ∧ ∀ (i : Nat) (e : V), es[i]? = some e → (cells e).length = sz ∧ ∀ (j : Nat) (y : V), (cells e)[j]? = some y →
      ∃ cv, w.cell? ⟨b, off + i * sz + j, none⟩ = some cv ∧ cv.oneCell' = true ∧ RD w F cv y) := by
    intro x hd he
    cases hd with
    | nilsl x sz' hx' => rw [he] at hx'; cases hx'; exact ⟨none, 0, rfl, by simp, fun h => absurd rfl h⟩
    | slice x sz' es' hx' hnn ad cc hc hl hs hF hb hsz cv hone hcv hr =>
      rw [he] at hx'; cases hx'
      obtain ⟨b, off, spot⟩ := ad
      exact ⟨_, cc, rfl, hl, fun hne => by
        have hs := hs hne
        simp only at hs; subst hs
        exact ⟨b, off, rfl, fun i e hi => ⟨hsz i e hi, fun j y hj => ⟨cv i j, hcv i e hi j y hj, hone i e hi j y hj, hr i e hi j y hj⟩⟩⟩⟩
    | _ => simp [V.elems] at he
  cases x with
  | osl id =>
    simp only [velems] at hx
    split at hx
    · rename_i fx e1 sz1 α f l he
      simp only [Option.some.injEq, Prod.mk.injEq] at hx
      obtain ⟨rfl, rfl⟩ := hx
      obtain ⟨fx1, e2, sz2, α2, f2, l2, h1, h2⟩ := RA.of_osl h
      rw [he] at h1
      simp only [Option.some.injEq, Ent.arr.injEq] at h1
      obtain ⟨rfl, rfl, rfl, rfl, hf, hl⟩ := h1
      have hf := eq_of_heq hf
      have hl := eq_of_heq hl
      subst hf; subst hl
      rcases h2 with ⟨rfl, rfl⟩ | ⟨b, cc, cur, hb, rfl, k2, k3, k4, k5, k6⟩
      · exact ⟨none, 0, rfl, by simp, fun h => absurd rfl h⟩
      · refine ⟨some ⟨b, 0, none⟩, cc, by simp, by simpa using k4, fun _ => ⟨b, 0, rfl, fun i e hi => ?_⟩⟩
        rcases ho.ent id _ he with ⟨m, _⟩ | ⟨b', cur', m1, m2, m3, m4, m5, m6⟩
        · rw [m] at hb; cases hb
        · rw [hb] at m1; cases m1
          rw [List.getElem?_map, Option.map_eq_some_iff] at hi
          obtain ⟨p, hp, rfl⟩ := hi
          refine ⟨(m6 i p hp).1, fun j y hj => ?_⟩
          obtain ⟨cv, n1, n2⟩ := (m6 i p hp).2 j y hj
          exact ⟨cv, by simp [World.cell?, m3, n1], m5 cv (Array.mem_of_getElem? n1), n2⟩
    · cases hx
  | sl => exact data _ (RA.of_elems h hx) hx
  | view id lo n =>
    simp only [velems] at hx
    split at hx
    · rename_i fx e1 sz1 α f l he
      simp only [Option.some.injEq, Prod.mk.injEq] at hx
      obtain ⟨rfl, rfl⟩ := hx
      obtain ⟨fx1, e2, sz2, α2, f2, l2, i, m, h1, hlo, hn, him, h2⟩ := RA.of_view h
      rw [he] at h1
      simp only [Option.some.injEq, Ent.arr.injEq] at h1
      obtain ⟨rfl, rfl, rfl, rfl, hf, hl⟩ := h1
      have hf := eq_of_heq hf
      have hl := eq_of_heq hl
      subst hf; subst hl
      have e1 : lo.den.toNat = i := by rw [hlo]; simp
      have e2 : n.den.toNat = m := by rw [hn]; simp
      rw [e1, e2]
      have hlen : (((l.drop i).take m).map f).length = m := by simp; omega
      rcases h2 with ⟨rfl, ad, cc, rfl⟩ | ⟨b, cc, cur, hpos, hb, rfl, k2, k3, k4, k5, k6⟩
      · exact ⟨ad, cc, by simp, by simp, fun h => by simp at h⟩
      · rcases ho.ent id _ he with ⟨h, _⟩ | ⟨b', cur', m1, m2, m3, m4, m5, m6⟩
        · rw [h] at hb; cases hb
        · rw [hb] at m1; cases m1
          rw [k5] at m3; cases m3
          refine ⟨some ⟨b, i * sz1, none⟩, cc - i, by rw [hlen], by rw [hlen]; omega, fun _ => ⟨b, i * sz1, rfl, fun j q hq => ?_⟩⟩
          rw [List.getElem?_map, Option.map_eq_some_iff] at hq
          obtain ⟨q', hq', rfl⟩ := hq
          rw [List.getElem?_take] at hq'
          split at hq'
          · rw [List.getElem?_drop] at hq'
            obtain ⟨u1, u2⟩ := m6 _ q' hq'
            refine ⟨u1, fun t y hy => ?_⟩
            obtain ⟨cv, w1, w2⟩ := u2 t y hy
            refine ⟨cv, ?_, m5 cv (Array.mem_of_getElem? w1), w2⟩
            simp only [World.cell?, k5]
            rw [show i * sz1 + j * sz1 + t = (i + j) * sz1 + t by rw [Nat.add_mul]]
            simpa using w1
          · cases hq'
    · cases hx
  | sls => exact data _ (RA.of_elems h hx) hx
  | nilsl => exact data _ (RA.of_elems h hx) hx
  | _ => simp [velems, V.elems] at hx

theorem news_cells {o : Own} (ho : OwnOk w F β o) {v : Value} {x : V} {sz : Nat} {α : Type} {f : α → V} {xs : List α} (h : RA w F β o v x) (hx : News o sz f xs x) (hsz : 0 < sz) :
    ∃ ad cc, v = .slice ad xs.length cc ∧ xs.length ≤ LIM ∧ (xs = [] ∨ ∃ (b off : Nat) (news : List Value), ad = some ⟨b, off, none⟩ ∧ news.length = xs.length * sz ∧ (∀ (j : Nat) (u : Value), news[j]? = some u → w.cell? ((⟨b, off, none⟩ : Addr).add j) = some u) ∧ (∀ u, u ∈ news → u.oneCell' = true) ∧
      ∀ (i : Nat) p, xs[i]? = some p → (cells (f p)).length = sz ∧ ∀ (j : Nat) (y : V), (cells (f p))[j]? = some y → ∃ cv, news[i * sz + j]? = some cv ∧ RD w F cv y) := by
  obtain ⟨es, h1, h2, h3⟩ := hx
  obtain ⟨ad, cc, e1, e2, e3⟩ := vel_cells ho h h1
  rw [h2] at e1 e2
  refine ⟨ad, cc, e1, e2, ?_⟩
  by_cases hxs : xs = []
  · exact .inl hxs
  · right
    have hne : es ≠ [] := fun h => hxs (List.eq_nil_of_length_eq_zero (by rw [← h2, h]; rfl))
    obtain ⟨b, off, rfl, hc⟩ := e3 hne
    have hcell : ∀ k, k < xs.length * sz → ∃ u, w.cell? ⟨b, off + k, none⟩ = some u ∧ u.oneCell' = true := fun k hk => by
      have hi : k / sz < es.length := by rw [h2]; exact Nat.div_lt_of_lt_mul (by rw [Nat.mul_comm]; exact hk)
      have he := List.getElem?_eq_getElem hi
      obtain ⟨l1, l2⟩ := hc _ _ he
      have hj : k % sz < (cells es[k / sz]).length := by rw [l1]; exact Nat.mod_lt _ hsz
      obtain ⟨cv, k1, k2, _⟩ := l2 _ _ (List.getElem?_eq_getElem hj)
      have : off + k / sz * sz + k % sz = off + k := by rw [Nat.mul_comm, Nat.add_assoc, Nat.div_add_mod]
      rw [this] at k1
      exact ⟨cv, k1, k2⟩
    refine ⟨b, off, (List.range (xs.length * sz)).map (fun k => (w.cell? ⟨b, off + k, none⟩).getD undef), rfl, by simp, fun j u hj => ?_, fun u hu => ?_, fun i p hp => ?_⟩
    · rw [List.getElem?_map, Option.map_eq_some_iff] at hj
      obtain ⟨k, hk, rfl⟩ := hj
      have hjk : j = k := by
        have := List.getElem?_eq_some_iff.1 hk
        obtain ⟨_, h⟩ := this
        simpa using h
      subst hjk
      have hlt : j < xs.length * sz := by have := (List.getElem?_eq_some_iff.1 hk).1; simpa using this
      obtain ⟨u, hu, _⟩ := hcell j hlt
      rw [Addr.add_at, hu]; rfl
    · rw [List.mem_map] at hu
      obtain ⟨k, hk, rfl⟩ := hu
      obtain ⟨u, hu1, hu2⟩ := hcell k (by simpa using hk)
      rw [hu1]; exact hu2
    · have hi : i < es.length := by rw [h2]; exact (List.getElem?_eq_some_iff.1 hp).1
      have he := List.getElem?_eq_getElem hi
      obtain ⟨l1, l2⟩ := hc _ _ he
      have hv := h3 i _ p he hp
      have hlen : (cells (f p)).length = sz := by rw [← hv.1, l1]
      refine ⟨hlen, fun j y hj => ?_⟩
      obtain ⟨q, hq1, hq2⟩ := hv.get hj
      obtain ⟨cv, k1, _, k3⟩ := l2 j q hq1
      have hjs : j < sz := by rw [← hlen]; exact (List.getElem?_eq_some_iff.1 hj).1
      have hlt : i * sz + j < xs.length * sz := by
        have h4 : i < xs.length := by omega
        have : (i + 1) * sz ≤ xs.length * sz := Nat.mul_le_mul_right _ h4
        rw [Nat.add_mul, Nat.one_mul] at this; omega
      refine ⟨cv, ?_, hq2 _ _ _ k3⟩
      have hr : (List.range (xs.length * sz))[i * sz + j]? = some (i * sz + j) := by rw [List.getElem?_range hlt]
      rw [List.getElem?_map, hr]
      simp only [Option.map_some]
      rw [← Nat.add_assoc, k1]; rfl

/-- What is appended, or copied: a list's elements, or a text's bytes. -/
structure SrcV (P : Program) (w : World) (sz : Nat) (v : Value) (n : Nat) (news : List Value) : Prop where
  len : ∀ w', (Builtin.lenOf v).run P w' = .ok n w'
  cells : ∀ w' : World, w'.heap = w.heap → ∀ q, q ≤ n → (Builtin.firstCells sz q v).run P w' = .ok (news.take (q * sz)).toArray w'
  newsLen : news.length = n * sz
  one : ∀ u, u ∈ news → u.oneCell' = true
theorem SrcV.of_slice {sz : Nat} {a : Addr} {n c : Nat} {news : List Value} (hl : news.length = n * sz) (hn : ∀ (j : Nat) (u : Value), news[j]? = some u → w.cell? (a.add j) = some u) (h1 : ∀ u, u ∈ news → u.oneCell' = true) : SrcV P w sz (.slice (some a) n c) n news :=
  ⟨fun _ => by simp [Builtin.lenOf], fun w' hw q hq => run_firstCells_some (P := P) w' sz q a n c (news.take (q * sz)) (by rw [List.length_take, hl]; exact Nat.min_eq_left (Nat.mul_le_mul_right _ hq)) (fun j u hj => by
    rw [List.getElem?_take] at hj
    split at hj
    · have := hn j u hj
      simpa [World.cell?, hw] using this
    · cases hj), hl, h1⟩
theorem SrcV.of_none {sz c : Nat} : SrcV P w sz (.slice none 0 c) 0 [] :=
  ⟨fun _ => by simp [Builtin.lenOf], fun w' _ q hq => by simp [Builtin.firstCells], by simp, by simp⟩
def u8c (l : List UInt8) : List Value := l.map fun b => Value.int .u8 (b.toNat : Int)
theorem SrcV.of_str {s : ByteArray} : SrcV P w 1 (.string s) s.size (u8c s.data.toList) :=
  ⟨fun _ => by simp [Builtin.lenOf], fun w' _ q hq => by
    have he : ((s.extract 0 q).data.map fun b => Value.int .u8 (b.toNat : Int)) = ((u8c s.data.toList).take (q * 1)).toArray := by
      apply Array.ext'
      rw [Nat.mul_one, Array.toList_map, ByteArray.data_extract, Array.toList_extract, u8c, ← List.map_take]
      rfl
    simp only [Builtin.firstCells, Sem.run_pure, he], by rw [u8c, List.length_map, Array.length_toList, Nat.mul_one]; rfl, by
    intro u hu
    obtain ⟨b, _, rfl⟩ := List.mem_map.1 hu
    rfl⟩
theorem news_src {o : Own} (ho : OwnOk w F β o) {v : Value} {x : V} {sz : Nat} {α : Type} {f : α → V} {xs : List α} (h : RA w F β o v x) (hx : News o sz f xs (strL x)) (hsz : 0 < sz) :
    ∃ news, SrcV P w sz v xs.length news ∧ xs.length ≤ LIM ∧ ∀ i p, xs[i]? = some p → (cells (f p)).length = sz ∧ ∀ (j : Nat) (y : V), (cells (f p))[j]? = some y → ∃ cv, news[i * sz + j]? = some cv ∧ RD w F cv y := by
  have slice : News o sz f xs x → ∃ news, SrcV P w sz v xs.length news ∧ xs.length ≤ LIM ∧ ∀ i p, xs[i]? = some p → (cells (f p)).length = sz ∧ ∀ (j : Nat) (y : V), (cells (f p))[j]? = some y → ∃ cv, news[i * sz + j]? = some cv ∧ RD w F cv y := by
    intro hx
    obtain ⟨ad, cc, rfl, e2, e3⟩ := news_cells ho h hx hsz
    rcases e3 with rfl | ⟨b, off, news, rfl, k1, k2, k3, k4⟩
    · refine ⟨[], ?_, by simp, by simp⟩
      cases ad with
      | none => exact .of_none
      | some a => exact .of_slice (by simp) (by simp) (by simp)
    · exact ⟨news, .of_slice k1 k2 k3, e2, k4⟩
  cases x with
  | str e =>
    obtain ⟨rfl, hl⟩ := RA.of_str h
    obtain ⟨es, h1, h2, h3⟩ := hx
    simp only [strL, velems, V.elems, Option.some.injEq, Prod.mk.injEq] at h1
    obtain ⟨rfl, rfl⟩ := h1
    have hlen : e.den.length = xs.length := by simpa [bytesI] using h2
    refine ⟨u8c e.den, ?_, by omega, fun i p hp => ?_⟩
    · have := SrcV.of_str (P := P) (w := w) (s := ⟨e.den.toArray⟩)
      rw [← hlen]
      simpa [ByteArray.size] using this
    · have hi : i < e.den.length := by rw [hlen]; exact (List.getElem?_eq_some_iff.1 hp).1
      have hv := h3 i (u8V e.den[i].toNat) p (by rw [bytesI, List.getElem?_map, List.getElem?_map, List.getElem?_eq_getElem hi]; rfl) hp
      have hlc : (cells (f p)).length = 1 := hv.1.symm
      refine ⟨hlc, fun j y hj => ?_⟩
      obtain ⟨q, hq1, hq2⟩ := hv.get hj
      have hj0 : j = 0 := by have := (List.getElem?_eq_some_iff.1 hj).1; omega
      subst hj0
      simp only [u8V, cells, List.getElem?_cons_zero, Option.some.injEq] at hq1
      subst hq1
      refine ⟨.int .u8 (e.den[i].toNat : Int), by simp [u8c, List.getElem?_eq_getElem hi], hq2 _ _ _ (.int _ _ _ rfl ?_)⟩
      have := e.den[i].toNat_lt
      rw [has_iff]; simp only [lo, Go.Vg.hi]; omega
  | _ => exact slice hx
theorem SrcV.src {sz : Nat} {v : Value} {n : Nat} {news : List Value} {u : TypeId} (h : SrcV P w sz v n news) (hk : (∃ e', P.underlying u = some (.slice e')) ∨ P.underlying u = some .string) : Src P sz u v n news w :=
  ⟨hk, h.len, by have := h.cells w rfl n (Nat.le_refl _); rwa [← h.newsLen, List.take_length] at this, by have := h.cells w.drew rfl n (Nat.le_refl _); rwa [← h.newsLen, List.take_length] at this, h.newsLen, h.one⟩
end
end Go.Vg
/- The conditions suffice: append and calls; all operations together. -/
namespace Go.Vg
open Go

section
variable {P : Program} {c : Ctx} {z : From} {F : Nat → Prop} {β : Bt} {s : St} {tm : Array Value} {w : World} {a : Act} {op : Oper} {K : Out → Prop}

theorem drew_same (w : World) : w.drew.heap = w.heap ∧ w.drew.os = w.os ∧ w.drew.tape = w.tape ∧ OutLe w w.drew := ⟨rfl, rfl, rfl, rfl, .inr (Nat.le_succ _)⟩

theorem zeroCells_one {zc : Array Value} (h : ∀ u, u ∈ zc → u.oneCell' = true) (n : Nat) : ∀ u, u ∈ Builtin.zeroCells zc n → u.oneCell' = true := by
  intro u hu
  obtain ⟨i, hi, rfl⟩ := Array.mem_iff_getElem.1 hu
  simp only [Builtin.zeroCells, Array.size_map, Array.size_range] at hi
  have hz : 0 < zc.size := by
    rcases Nat.eq_zero_or_pos zc.size with h0 | h0
    · rw [h0] at hi; simp at hi
    · exact h0
  have : i % zc.size < zc.size := Nat.mod_lt _ hz
  simp only [Builtin.zeroCells, Array.getElem_map, Array.getElem_range]
  rw [getElem!_pos zc (i % zc.size) this]
  exact h _ (by simp)

theorem src_nil {t u ty e : TypeId} {i : TypeInfo} {z : Value} (ht : P.underlying t = some (.slice e)) (hi : P.info? e = some i) (hz : i.zero = some z) {v : Value} {n : Nat} {news : List Value} (hs : Src P i.size u v n news w) (h0 : 0 < n) (h63 : (n : Int) ≤ 9223372036854775807) (h48 : n * i.bytes ≤ 281474976710656) :
    (Builtin.append_ #[t, u] ty #[.slice none 0 0, v]).run P w = .ok (.slice (some ⟨w.heap.size, 0, none⟩) n (grownCap w n 0 e)) (w.drew.alloc (.cells (news.toArray ++ Builtin.zeroCells z.cells (grownCap w n 0 e - n)) e)) := by
  have := run_append_grow_src (P := P) w t u ty e i z ht hi hz none 0 0 [] (by simp [Builtin.firstCells]) v n news hs (by omega) (by simpa using h63) (by rw [Nat.zero_add, nextslicecap_zero h0]; exact h48)
  simpa using this
theorem src_room {t u ty e : TypeId} {i : TypeInfo} (ht : P.underlying t = some (.slice e)) (hi : P.info? e = some i) {g sLen sCap : Nat} {cur : Array Value} (hg : w.heap[g]? = some (.cells cur e (0, 0))) {v : Value} {n : Nat} {news : List Value} (hs : Src P i.size u v n news w)
    (hroom : sLen + n ≤ sCap) (hfit : sLen * i.size + news.length ≤ cur.size) :
    (Builtin.append_ #[t, u] ty #[.slice (some ⟨g, 0, none⟩) sLen sCap, v]).run P w = .ok (.slice (some ⟨g, 0, none⟩) (sLen + n) sCap) (w.setRow g (cur.toList.take (sLen * i.size) ++ news ++ cur.toList.drop (sLen * i.size + news.length)).toArray) := by
  have hst := run_storeCells_at P g (sLen * i.size) e news 0 cur w hg (by simpa using hfit) hs.one
  simp only [Nat.add_zero] at hst
  rcases hs.kind with ⟨e', hk⟩ | hk <;> simp [Builtin.append_, run_underlying ht, run_underlying hk, sizeOf, typeInfo, hi, hs.len, hroom, hs.cells, Addr.add_lit, hst]
theorem src_same {t u ty e : TypeId} {i : TypeInfo} (ht : P.underlying t = some (.slice e)) (hi : P.info? e = some i) {a : Option Addr} {sLen sCap : Nat} (hc : sLen ≤ sCap) {v : Value} (hs : Src P i.size u v 0 [] w) :
    (Builtin.append_ #[t, u] ty #[.slice a sLen sCap, v]).run P w = .ok (.slice a sLen sCap) w := by
  have h1 := hs.cells
  rcases hs.kind with ⟨e', hk⟩ | hk <;> cases a <;> simp [Builtin.append_, run_underlying ht, run_underlying hk, sizeOf, typeInfo, hi, hs.len, hc, h1, storeCells]

theorem step_append_nil (ha : a.tmps = tm) (hr : Rl P c z F β s tm w) {im : List (Nat × Bool)} (him : ∀ t b, (t, b) ∈ im → tm.getD t undef = .bool b) {t u el : TypeId} {x y : Operand} {d : Nat} {ti : TI} {q1 q2 : Nat} {q3 : List V}
    (hop : op.op = .call ⟨.builtin .append, ⟨[x, y]⟩, ⟨[t, u]⟩⟩) (hk0 : (∃ e', P.underlying u = some (.slice e')) ∨ P.underlying u = some .string) (ht : tlook c.T t = some ⟨.slice el, q1, q2, q3⟩) (hel : tlook c.T el = some ti) (hd : d < 10000) (hpos : 0 < ti.sz) (hx : res s.e im (evalO c s.e x) = .nilsl)
    {α : Type} {f : α → V} {xs : List α} (hn : News s.o ti.sz f xs (strL (res s.e im (evalO c s.e y)))) (hb : xs.length * ti.bytes ≤ 140737488355328) (hk : K ⟨.osl d, [], [(d, true, .arr false el ti.sz f xs)]⟩) : StepTo P c z s tm w a op K := by
  have hxx := res_ra ha hr.toRel him x
  rw [hx] at hxx
  have hxv : a.eval x = .slice none 0 0 := by
    have hd := RA.of_elems hxx (rfl : V.nilsl.elems = some (0, []))
    generalize hq : V.nilsl = q at hd
    generalize a.eval x = val at hd ⊢
    cases hd with
    | nilsl => rfl
    | slice x sz es hx hnn => exact absurd hq.symm hnn
    | _ => cases hq
  obtain ⟨info, zv, desc, t1, t2, t3, t4, t5, t6, t7, t8, t9, t10⟩ := hr.tab.ok el ti hel
  have hu := slice_ty hr.tab ht
  obtain ⟨news, hS, e2, k4⟩ := news_src (P := P) hr.own (res_ra ha hr.toRel him y) hn hpos
  have n1 := hS.newsLen
  have n3 := hS.one
  have hSrc := hS.src hk0
  rw [← t4] at hSrc
  have hnil : xs = [] → Src P info.size u (a.eval y) 0 [] w := fun h => by
    have : news = [] := List.eq_nil_of_length_eq_zero (by rw [n1, h]; simp)
    rw [this, h] at hSrc; exact hSrc
  by_cases hxs : xs = []
  · -- nothing is appended to nothing
    subst hxs
    have hR := hr.anew (w' := w) (F' := F) (X := d) (nb := none) (ent := .arr false el ti.sz f []) (.inl hd) (fun _ _ _ => rfl) rfl rfl ⟨rfl, .inr (Nat.le_refl _)⟩ (Nat.le_refl _) (fun _ h => h) (fun _ _ h => h) hr.Flt (fun b hb => by cases hb) (.inl ⟨by simp, rfl⟩)
    refine StepTo.of_run (val := .slice none 0 0) (w' := w) ?_ hk hR (.osl0 d false el ti.sz f (by simp [St.after, ups, frz, up1, olook, Ent.sub]))
    have hrun := src_same (w := w) (ty := op.type) (a := none) (sLen := 0) (sCap := 0) hu t1 (by omega) (hnil rfl)
    simp [execOp, hop, resolve, invoke, builtin, hxv, hrun]
  · have k1 := n1
    have k3 := n3
    have hlen : 0 < xs.length := List.length_pos_iff.2 hxs
    have hrun := src_nil (ty := op.type) hu t1 t6 hSrc hlen (by unfold LIM at e2; omega) (by rw [t5]; omega)
    have hge := grownCap_ge w xs.length 0 el
    obtain ⟨F', β', g1, g2⟩ := hr.newArr (d := d) (.inl hd) (cur := news.toArray ++ Builtin.zeroCells zv.cells (grownCap w xs.length 0 el - xs.length)) (e := el) (sz := ti.sz) (f := f) (l := xs) (cc := grownCap w xs.length 0 el) hge
      (grownCap_le_maxLen w _ _ el (by unfold LIM at e2; simp only [maxLen]; omega)) e2 (by simp only [Array.size_append, List.size_toArray, size_zeroCells, k1, t8, ← Nat.add_mul]; congr 1; omega)
      (fun u hu' => by
        rcases Array.mem_append.1 hu' with h | h
        · exact k3 u (by simpa using h)
        · exact zeroCells_one t9 _ u h)
      (fun i p hp => by
        obtain ⟨m1, m2⟩ := k4 i p hp
        refine ⟨m1, fun j y hj => ?_⟩
        obtain ⟨cv, n1, n2⟩ := m2 j y hj
        refine ⟨cv, ?_, n2⟩
        have hlt := (List.getElem?_eq_some_iff.1 n1).1
        rw [Array.getElem?_append_left (by simpa using hlt)]
        simpa using n1)
      (w0 := w.drew) (drew_same w)
    refine StepTo.of_run ?_ hk g1 g2
    simp only [execOp, hop, resolve, invoke, builtin, Sem.run_bind, Sem.run_pure, Result.andThen_ok, List.map_toArray, List.map_cons, List.map_nil, hxv, hrun]
    rfl

theorem step_append_own (ha : a.tmps = tm) (hr : Rl P c z F β s tm w) {im : List (Nat × Bool)} (him : ∀ t b, (t, b) ∈ im → tm.getD t undef = .bool b) {t u el : TypeId} {x y : Operand} {id : Nat} {ti : TI} {q1 q2 : Nat} {q3 : List V}
    (hop : op.op = .call ⟨.builtin .append, ⟨[x, y]⟩, ⟨[t, u]⟩⟩) (hk0 : (∃ e', P.underlying u = some (.slice e')) ∨ P.underlying u = some .string) (ht : tlook c.T t = some ⟨.slice el, q1, q2, q3⟩) (hel : tlook c.T el = some ti) (hpos : 0 < ti.sz) (hx : res s.e im (evalO c s.e x) = .osl id) {e0 : TypeId}
    {α : Type} {f : α → V} {l xs : List α} (ho : olook s.o id = some (.arr false e0 ti.sz f l)) (hn : News s.o ti.sz f xs (strL (res s.e im (evalO c s.e y)))) (hb : (l.length + xs.length) * ti.bytes ≤ 140737488355328) (hlim : l.length + xs.length ≤ LIM) (hee : e0 = el)
    (hX : id < 10000 ∨ (∀ ent, olook z.o id = some ent → pinned ent = false)) (hk : K ⟨.osl id, [], [(id, true, .arr false el ti.sz f (l ++ xs))]⟩) : StepTo P c z s tm w a op K := by
  subst hee
  have hxx := res_ra ha hr.toRel him x
  rw [hx] at hxx
  obtain ⟨info, zv, desc, t1, t2, t3, t4, t5, t6, t7, t8, t9, t10⟩ := hr.tab.ok e0 ti hel
  have hu := slice_ty hr.tab ht
  obtain ⟨news, hS, e2, k4'⟩ := news_src (P := P) hr.own (res_ra ha hr.toRel him y) hn hpos
  have n1 := hS.newsLen
  have n3 := hS.one
  have hSrc := hS.src hk0
  rw [← t4] at hSrc
  have hnil : xs = [] → Src P info.size u (a.eval y) 0 [] w := fun h => by
    have : news = [] := List.eq_nil_of_length_eq_zero (by rw [n1, h]; simp)
    rw [this, h] at hSrc; exact hSrc
  obtain ⟨fx1, e1', sz1, α1, f1, l1, g1, g2⟩ := RA.of_osl hxx
  rw [ho] at g1
  simp only [Option.some.injEq, Ent.arr.injEq] at g1
  obtain ⟨rfl, rfl, rfl, rfl, hf, hl⟩ := g1
  have hf := eq_of_heq hf
  have hl := eq_of_heq hl
  subst hf; subst hl
  rcases g2 with ⟨rfl, hxv⟩ | ⟨b, cc0, cur, hb0, hxv, k2, k3, k4, k5, k6⟩
  · -- onto nothing
    simp only [List.nil_append] at hk
    simp only [List.length_nil, Nat.zero_add] at hb
    by_cases hxs : xs = []
    · subst hxs
      have hR := hr.anew (w' := w) (F' := F) (X := id) (nb := none) (ent := .arr false e0 ti.sz f []) hX (fun _ _ _ => rfl) rfl rfl ⟨rfl, .inr (Nat.le_refl _)⟩ (Nat.le_refl _) (fun _ h => h) (fun _ _ h => h) hr.Flt (fun b hb => by cases hb) (.inl ⟨by simp, rfl⟩)
      refine StepTo.of_run (val := .slice none 0 0) (w' := w) ?_ hk hR (.osl0 id false e0 ti.sz f (by simp [St.after, ups, frz, up1, olook, Ent.sub]))
      have hrun := src_same (w := w) (ty := op.type) (a := none) (sLen := 0) (sCap := 0) hu t1 (by omega) (hnil rfl)
      simp [execOp, hop, resolve, invoke, builtin, hxv, hrun]
    · have k1 := n1
      have k3 := n3
      have hlen : 0 < xs.length := List.length_pos_iff.2 hxs
      have hrun := src_nil (ty := op.type) hu t1 t6 hSrc hlen (by unfold LIM at e2; omega) (by rw [t5]; omega)
      have hge := grownCap_ge w xs.length 0 e0
      obtain ⟨F', β', g1, g2⟩ := hr.newArr (d := id) hX (cur := news.toArray ++ Builtin.zeroCells zv.cells (grownCap w xs.length 0 e0 - xs.length)) (e := e0) (sz := ti.sz) (f := f) (l := xs) (cc := grownCap w xs.length 0 e0) hge
        (grownCap_le_maxLen w _ _ e0 (by unfold LIM at e2; simp only [maxLen]; omega)) e2 (by simp only [Array.size_append, List.size_toArray, size_zeroCells, k1, t8, ← Nat.add_mul]; congr 1; omega)
        (fun u hu' => by
          rcases Array.mem_append.1 hu' with h | h
          · exact k3 u (by simpa using h)
          · exact zeroCells_one t9 _ u h)
        (fun i p hp => by
          obtain ⟨m1, m2⟩ := k4' i p hp
          refine ⟨m1, fun j y hj => ?_⟩
          obtain ⟨cv, n1, n2⟩ := m2 j y hj
          refine ⟨cv, ?_, n2⟩
          have hlt := (List.getElem?_eq_some_iff.1 n1).1
          rw [Array.getElem?_append_left (by simpa using hlt)]
          simpa using n1)
        (w0 := w.drew) (drew_same w)
      refine StepTo.of_run ?_ hk g1 g2
      simp only [execOp, hop, resolve, invoke, builtin, Sem.run_bind, Sem.run_pure, Result.andThen_ok, List.map_toArray, List.map_cons, List.map_nil, hxv, hrun]
      rfl
  · rcases hr.own.ent id _ ho with ⟨h, _⟩ | ⟨b', cur', m1, m2, m3, m4, m5, m6⟩
    · rw [h] at hb0; cases hb0
    rw [hb0] at m1; cases m1
    rw [k5] at m3; cases m3
    have hlt : b < w.heap.size := blk_lt k5
    -- what the new list needs of its block
    have inplace : ∀ (w' : World) (cur1 : Array Value), w'.heap[b]? = some (.cells cur1 e0 (0, 0)) → cur1.size = cur.size → (∀ b', b' < w.heap.size → b' ≠ b → w'.heap[b']? = w.heap[b']?) → w'.os = w.os → w'.tape = w.tape → OutLe w w' → w'.heap.size = w.heap.size →
        (∀ u, u ∈ cur1 → u.oneCell' = true) → l.length + xs.length ≤ cc0 →
        (∀ (i : Nat) p, (l ++ xs)[i]? = some p → (cells (f p)).length = ti.sz ∧ ∀ (j : Nat) (y : V), (cells (f p))[j]? = some y → ∃ cv, cur1[i * ti.sz + j]? = some cv ∧ RD w F cv y) →
        Rl P c z F (fun q => if q = id then some b else β q) (up1 s (id, true, .arr false e0 ti.sz f (l ++ xs))) tm w' ∧ RA w' F (fun q => if q = id then some b else β q) (up1 s (id, true, .arr false e0 ti.sz f (l ++ xs))).o (.slice (some ⟨b, 0, none⟩) (l ++ xs).length cc0) (.osl id) := by
      intro w' cur1 h1 h2 h3 h4 h5 h6 h7 h8 h9 h10
      have hFb := m2
      have hd := hd_of (w := w) (w' := w') (F := F) (F' := F) (fun b' hb' hn => h3 b' hb' (fun e => hn (e ▸ hFb))) (fun _ _ h => h) (by omega)
      refine ⟨hr.anew (X := id) hX (fun b' hb' hne => h3 b' hb' (fun e => hne (e ▸ hb0))) h4 h5 h6 (by omega) (fun _ h => h) (fun _ _ h => h) (fun b' h => by rw [h7]; exact hr.Flt b' h) (fun b' hb' => by cases hb'; exact .inr hb0) ?_, ?_⟩
      · refine .inr ⟨b, cur1, by simp, m2, h1, by rw [h2, k6]; exact Nat.mul_le_mul_right _ (by simpa using h9), h8, fun i p hp => ⟨(h10 i p hp).1, fun j y hj => ?_⟩⟩
        obtain ⟨cv, n1, n2⟩ := (h10 i p hp).2 j y hj
        exact ⟨cv, n1, hd _ _ n2⟩
      · exact .osl id b (by simp) false e0 ti.sz f (l ++ xs) cc0 (by simp [up1, olook, Ent.sub]) (by simpa using h9) k3 (by simpa using hlim) cur1 h1 (by rw [h2, k6])
    by_cases hxs : xs = []
    · subst hxs
      obtain ⟨r1, r2⟩ := inplace w cur k5 rfl (fun _ _ _ => rfl) rfl rfl ⟨rfl, .inr (Nat.le_refl _)⟩ rfl m5 (by simpa using k2) (by simpa using m6)
      refine StepTo.of_run (w' := w) ?_ hk r1 r2
      have hrun := src_same (w := w) (ty := op.type) (a := some ⟨b, 0, none⟩) (sLen := l.length) (sCap := cc0) hu t1 k2 (hnil rfl)
      simp [execOp, hop, resolve, invoke, builtin, hxv, hrun]
    · have n4 := k4'
      have hlen : 0 < xs.length := List.length_pos_iff.2 hxs
      by_cases hroom : l.length + xs.length ≤ cc0
      · have hfit : l.length * info.size + news.length ≤ cur.size := by rw [n1, t4, k6, ← Nat.add_mul]; exact Nat.mul_le_mul_right _ hroom
        have hrun := src_room (ty := op.type) hu t1 k5 hSrc hroom hfit
        have hlen2 : l.length * info.size + news.length ≤ cur.toList.length := by simpa using hfit
        obtain ⟨r1, r2⟩ := inplace (w.setRow b (cur.toList.take (l.length * info.size) ++ news ++ cur.toList.drop (l.length * info.size + news.length)).toArray) _ (setRow_heap w b cur _ e0 (0, 0) k5) (by rw [List.size_toArray, seg_size _ _ _ hlen2]; simp)
          (fun b' _ hne => setRow_other w b b' _ hne) rfl rfl ⟨rfl, .inr (Nat.le_refl _)⟩ (by simp) (seg_one m5 n3) hroom (fun i p hp => by
            rw [List.getElem?_append] at hp
            by_cases hi : i < l.length
            · rw [if_pos hi] at hp
              obtain ⟨q1, q2⟩ := m6 i p hp
              refine ⟨q1, fun j y hj => ?_⟩
              obtain ⟨cv, u1, u2⟩ := q2 j y hj
              have hjs : j < ti.sz := by rw [← q1]; exact (List.getElem?_eq_some_iff.1 hj).1
              have hlt2 : i * ti.sz + j < l.length * info.size := by
                have : (i + 1) * ti.sz ≤ l.length * ti.sz := Nat.mul_le_mul_right _ hi
                rw [Nat.add_mul, Nat.one_mul] at this; rw [t4]; omega
              refine ⟨cv, ?_, u2⟩
              rw [List.getElem?_toArray, seg_get _ _ _ _ hlen2, if_pos hlt2]
              simpa using u1
            · rw [if_neg hi] at hp
              obtain ⟨q1, q2⟩ := n4 (i - l.length) p hp
              refine ⟨q1, fun j y hj => ?_⟩
              obtain ⟨cv, u1, u2⟩ := q2 j y hj
              have hlt3 := (List.getElem?_eq_some_iff.1 u1).1
              have he : i * ti.sz + j - l.length * info.size = (i - l.length) * ti.sz + j := by
                rw [t4, Nat.sub_mul]
                have : l.length * ti.sz ≤ i * ti.sz := Nat.mul_le_mul_right _ (by omega)
                omega
              have hge : ¬ i * ti.sz + j < l.length * info.size := by
                rw [t4]
                have : l.length * ti.sz ≤ i * ti.sz := Nat.mul_le_mul_right _ (by omega)
                omega
              refine ⟨cv, ?_, u2⟩
              rw [List.getElem?_toArray, seg_get _ _ _ _ hlen2, if_neg hge, if_pos (by omega), he]
              exact u1)
        refine StepTo.of_run ?_ hk r1 r2
        simp only [execOp, hop, resolve, invoke, builtin, Sem.run_bind, Sem.run_pure, Result.andThen_ok, List.map_toArray, List.map_cons, List.map_nil, hxv, hrun, List.length_append]
      · -- the list moves
        have hfit0 : l.length * ti.sz ≤ cur.size := m4
        have hrun := run_append_grow_src (P := P) w t u op.type e0 info zv hu t1 t6 (some ⟨b, 0, none⟩) l.length cc0 (cur.toList.take (l.length * ti.sz)) (run_firstCells_some (P := P) w.drew info.size l.length ⟨b, 0, none⟩ l.length cc0 _ (by simp; rw [t4]; omega) (fun j v hj => by
            rw [List.getElem?_take] at hj
            split at hj
            · rw [Addr.add_at]; simp only [World.cell?, World.drew, k5, Nat.zero_add]; simpa using hj
            · cases hj)) (a.eval y) xs.length news hSrc (by omega) (by unfold LIM at hlim; omega) (growslice_fits (by omega) (by rw [t5]; exact hb))
        rw [show (cur.toList.take (l.length * ti.sz) ++ news).toArray = (cur.toList.take (l.length * ti.sz)).toArray ++ news.toArray by simp] at hrun
        have hge := grownCap_ge w (l.length + xs.length) cc0 e0
        have hold : (cur.toList.take (l.length * ti.sz)).length = l.length * ti.sz := by simp; omega
        obtain ⟨F', β', g1, g2⟩ := hr.newArr (d := id) hX (cur := (cur.toList.take (l.length * ti.sz)).toArray ++ news.toArray ++ Builtin.zeroCells zv.cells (grownCap w (l.length + xs.length) cc0 e0 - (l.length + xs.length))) (e := e0) (sz := ti.sz) (f := f) (l := l ++ xs)
          (cc := grownCap w (l.length + xs.length) cc0 e0) (by simpa using hge) (grownCap_le_maxLen w _ _ e0 (by unfold LIM at hlim; simp only [maxLen]; omega)) (by simpa using hlim)
          (by simp only [Array.size_append, List.size_toArray, size_zeroCells, hold, n1, t8, ← Nat.add_mul]; congr 1; omega)
          (fun u hu' => by
            rcases Array.mem_append.1 hu' with h | h
            · rcases Array.mem_append.1 h with h | h
              · exact m5 u (by
                  have := List.mem_of_mem_take (by simpa using h : u ∈ cur.toList.take (l.length * ti.sz))
                  simpa using this)
              · exact n3 u (by simpa using h)
            · exact zeroCells_one t9 _ u h)
          (fun i p hp => by
            rw [List.getElem?_append] at hp
            by_cases hi : i < l.length
            · rw [if_pos hi] at hp
              obtain ⟨q1, q2⟩ := m6 i p hp
              refine ⟨q1, fun j y hj => ?_⟩
              obtain ⟨cv, u1, u2⟩ := q2 j y hj
              have hjs : j < ti.sz := by rw [← q1]; exact (List.getElem?_eq_some_iff.1 hj).1
              have hlt2 : i * ti.sz + j < l.length * ti.sz := by
                have : (i + 1) * ti.sz ≤ l.length * ti.sz := Nat.mul_le_mul_right _ hi
                rw [Nat.add_mul, Nat.one_mul] at this; omega
              refine ⟨cv, ?_, u2⟩
              rw [Array.getElem?_append_left (by simp; omega), Array.getElem?_append_left (by simp; omega)]
              simp [List.getElem?_take, hlt2, u1]
            · rw [if_neg hi] at hp
              obtain ⟨q1, q2⟩ := n4 (i - l.length) p hp
              refine ⟨q1, fun j y hj => ?_⟩
              obtain ⟨cv, u1, u2⟩ := q2 j y hj
              have hlt3 := (List.getElem?_eq_some_iff.1 u1).1
              have hle : l.length * ti.sz ≤ i * ti.sz := Nat.mul_le_mul_right _ (by omega)
              have he : i * ti.sz + j - l.length * ti.sz = (i - l.length) * ti.sz + j := by rw [Nat.sub_mul]; omega
              refine ⟨cv, ?_, u2⟩
              rw [Array.getElem?_append_left (by simp [hold]; omega), Array.getElem?_append_right (by simp [hold]; omega)]
              simp only [List.size_toArray, hold, he, List.getElem?_toArray]
              exact u1)
          (w0 := w.drew) (drew_same w)
        refine StepTo.of_run ?_ hk g1 g2
        simp only [execOp, hop, resolve, invoke, builtin, Sem.run_bind, Sem.run_pure, Result.andThen_ok, List.map_toArray, List.map_cons, List.map_nil, hxv, hrun, List.length_append]
        rfl

end
end Go.Vg
