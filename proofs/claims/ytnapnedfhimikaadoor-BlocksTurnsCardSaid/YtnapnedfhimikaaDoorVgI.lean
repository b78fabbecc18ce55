/- The verification conditions: what is to be shown at each operation. -/
import Derived.Test.YtnapnedfhimikaaDoorVgH
set_option maxRecDepth 4000
set_option linter.all false
set_option linter.unusedVariables false
set_option linter.unusedSimpArgs false
namespace Go.Vg
open Go

def byteV (b : UInt8) : V := .int .u8 (.byte b)
def intV (n : Int) : V := .int .i64 (.v n)

/-- What one cell tells, the other tells. -/
def CEq (x y : V) : Prop := ∀ w F v, RD w F v x → RD w F v y
def CEqL (xs ys : List V) : Prop := xs.length = ys.length ∧ ∀ (j : Nat) (x y : V), xs[j]? = some x → ys[j]? = some y → CEq x y
def VEq (a b : V) : Prop := CEqL (cells a) (cells b)

/-- A slice's elements, own or not. -/
def velems (o : Own) (x : V) : Option (Nat × List V) :=
  match x with
  | .osl id => match olook o id with
    | some (.arr _ _ sz f l) => some (sz, l.map f)
    | _ => none
  | .view id lo n => match olook o id with
    | some (.arr _ _ sz f l) => some (sz, ((l.drop lo.den.toNat).take n.den.toNat).map f)
    | _ => none
  | x => x.elems
/-- A slice's elements are these. -/
def News (o : Own) (sz : Nat) {α : Type} (f : α → V) (xs : List α) (x : V) : Prop :=
  ∃ es, velems o x = some (sz, es) ∧ es.length = xs.length ∧ ∀ (i : Nat) (e : V) (p : α), es[i]? = some e → xs[i]? = some p → VEq e (f p)

/-- A place where the reckoning may rest. -/
inductive Pause (k : Bool → Prop) : Prop
  | mk (h : k true) : Pause k
theorem Pause.go {k : Bool → Prop} (h : Pause k) : k true := by cases h; assumption
/-- What is closed is shown apart. -/
inductive Draw (b : Bool → Bool) (k : Bool → Prop) : Prop
  | mk (h : b true = true) (hk : k true) : Draw b k
/-- One of two, of which the other one is not reckoned. -/
def cnd {α : Type _} (b : Bool) (x y : Unit → α) : α := match b with
  | true => x ()
  | false => y ()
theorem cnd_eq {α : Type _} (b : Bool) (x y : Unit → α) : cnd b x y = bif b then x () else y () := by cases b <;> rfl
/-- Every sixth one. -/
def six {α : Type _} : List α → Bool
  | _ :: _ :: _ :: _ :: _ :: _ :: r => six r
  | [_, _, _, _, _] => true
  | _ => false
def pz (n : Bool) (k : Unit → Prop) : Prop := cnd n (fun _ => Pause (fun b => bif b then k () else True)) k
theorem pz_go {n : Bool} {k : Unit → Prop} (h : pz n k) : k () := by
  unfold pz cnd at h
  cases n with
  | true => exact Pause.go h
  | false => exact h
inductive Branch (c : BE) (t f : Unit → Prop) : Prop
  | mk (ht : c.den = true → t ()) (hf : c.den = false → f ()) : Branch c t f
inductive Chk (c : BE) (k : Unit → Prop) : Prop
  | mk (h : c.den = true) (hk : k ()) : Chk c k
inductive ElemP {α : Type} (f : α → V) (l : List α) (i : IE) (k : α → Prop) : Prop
  | mk (h0 : 0 ≤ i.den) (h1 : i.den < l.length) (hk : ∀ p, l[i.den.toNat]? = some p → V.wf (f p) → k p) : ElemP f l i k
inductive ElemV (vs : List V) (i : IE) (k : V → Prop) : Prop
  | mk (h0 : 0 ≤ i.den) (h1 : i.den < vs.length) (hk : ∀ x, vs[i.den.toNat]? = some x → k x) : ElemV vs i k
inductive EloadP {α : Type} (f : α → V) (l : List α) (i : IE) (k : α → Prop) : Prop
  | mk (hk : ∀ p, l[i.den.toNat]? = some p → V.wf (f p) → k p) : EloadP f l i k
inductive EstoreP {α : Type} (f : α → V) (l : List α) (i : IE) (off : Nat) (cs : List V) (k : List α → Prop) : Prop
  | mk (hk : ∀ p, l[i.den.toNat]? = some p → V.wf (f p) → ∃ p', CEqL (setAt (cells (f p)) off cs) (cells (f p')) ∧ ∀ l', l' = l.set i.den.toNat p' → k l') : EstoreP f l i off cs k
inductive SubP {α : Type} (l : List α) (lo hi : IE) (k : List α → Prop) : Prop
  | mk (a b : Nat) (ha : lo.den = a) (hb : hi.den = b) (h1 : a ≤ b) (h2 : b ≤ l.length) (hk : ∀ l', l' = (l.drop a).take (b - a) → k l') : SubP l lo hi k
/-- A part of an own list: data from now on, or a view, or all that is left. -/
inductive SubO {α : Type} (l : List α) (lo hi : IE) (kf : List α → Prop) (kv : IE → IE → Prop) (kt : List α → Prop) : Prop
  | freeze (h : SubP l lo hi kf) : SubO l lo hi kf kv kt
  | view (lo' n : IE) (h1 : lo'.den = lo.den) (h2 : n.den = hi.den - lo.den) (h0 : 0 ≤ lo.den) (h3 : lo.den ≤ hi.den) (h4 : hi.den ≤ l.length) (hk : kv lo' n) : SubO l lo hi kf kv kt
  | take (h0 : lo.den = 0) (m : Nat) (hm : hi.den = m) (h4 : m ≤ l.length) (hk : ∀ l', l' = l.take m → kt l') : SubO l lo hi kf kv kt
/-- A part of an own list, as a view, and nothing else. -/
inductive ViewP {α : Type} (l : List α) (lo hi : IE) (k : IE → IE → Prop) : Prop
  | mk (lo' n : IE) (h1 : lo'.den = lo.den) (h2 : n.den = hi.den - lo.den) (h0 : 0 ≤ lo.den) (h3 : lo.den ≤ hi.den) (h4 : hi.den ≤ l.length) (hk : k lo' n) : ViewP l lo hi k
/-- Is a list nil? Of data it is not known, but that it is empty if it is. -/
inductive NilP {α : Type} (l : List α) (k : Bool → Prop) : Prop
  | mk (ht : l = [] → k true) (hf : k false) : NilP l k
inductive CopyP (sz : Nat) (d x : V) (o : Own) (k0 : Unit → Prop) (k : (id : Nat) → Bool → TypeId → (α : Type) → (α → V) → List α → Nat → Prop) : Prop
  | none (sz1 sz2 : Nat) (es es' : List V) (h1 : velems o x = some (sz1, es)) (h2 : velems o d = some (sz2, es')) (h : es = [] ∨ es' = []) (hk : k0 ()) : CopyP sz d x o k0 k
  | some {α : Type} (f : α → V) (l xs : List α) (id : Nat) (fx : Bool) (e : TypeId) (i m q : Nat) (ho : olook o id = some (.arr fx e sz f l)) (hd : (d = .osl id ∧ i = 0 ∧ m = l.length) ∨ ∃ lo n, d = .view id lo n ∧ lo.den = (i : Int) ∧ n.den = (m : Int))
      (hx : News o sz f xs x) (hq : q = min xs.length m) (hpos : 0 < q) (hk : ∀ l', l' = l.take i ++ (xs.take q ++ l.drop (i + q)) → k id fx e α f l' q) : CopyP sz d x o k0 k
/-- A part of an own list is cleared. -/
inductive ClearP (sz : Nat) (zero : List V) (d : V) (o : Own) (k0 : Unit → Prop) (k : (id : Nat) → Bool → TypeId → (α : Type) → (α → V) → List α → Prop) : Prop
  | none (sz' : Nat) (h : velems o d = some (sz', [])) (hk : k0 ()) : ClearP sz zero d o k0 k
  | some {α : Type} (f : α → V) (l : List α) (id : Nat) (fx : Bool) (e : TypeId) (i m : Nat) (z : α) (ho : olook o id = some (.arr fx e sz f l)) (hd : (d = .osl id ∧ i = 0 ∧ m = l.length) ∨ ∃ lo n, d = .view id lo n ∧ lo.den = (i : Int) ∧ n.den = (m : Int))
      (hm : 0 < m) (hz : CEqL zero (cells (f z))) (hk : ∀ l', l' = l.take i ++ (List.replicate m z ++ l.drop (i + m)) → k id fx e α f l') : ClearP sz zero d o k0 k
inductive AppP (bytes sz : Nat) (el : TypeId) (s x : V) (o : Own) (k : (α : Type) → (α → V) → List α → Prop) : Prop
  | nil {α : Type} (f : α → V) (xs : List α) (hs : s = .nilsl) (hx : News o sz f xs x) (hb : xs.length * bytes ≤ 140737488355328) (hk : ∀ l', l' = xs → k α f l') : AppP bytes sz el s x o k
  | own {α : Type} (f : α → V) (l xs : List α) (id : Nat) (hs : s = .osl id) (ho : olook o id = some (.arr false el sz f l)) (hx : News o sz f xs x) (hb : (l.length + xs.length) * bytes ≤ 140737488355328)
      (hk : ∀ l', l' = l ++ xs → k α f l') : AppP bytes sz el s x o k
/-- A list of no elements is built. -/
inductive EmptyP (kd : Prop) (k : (α : Type) → (α → V) → Prop) : Prop
  | data (h : kd) : EmptyP kd k
  | own {α : Type} (f : α → V) (h : k α f) : EmptyP kd k
/-- A list is built, as data or as an own one. -/
inductive BuildP (sz : Nat) (vs : List V) (kd : Prop) (k : (α : Type) → (α → V) → List α → Prop) : Prop
  | data (h : kd) : BuildP sz vs kd k
  | own {α : Type} (f : α → V) (l : List α) (hl : vs.length = l.length) (hc : ∀ (i : Nat) (e : V) (p : α), vs[i]? = some e → l[i]? = some p → VEq e (f p)) (hk : ∀ l', l' = l → k α f l') : BuildP sz vs kd k
inductive MakeP (bytes : Nat) (n : IE) (zero : List V) (k : (α : Type) → (α → V) → List α → Prop) : Prop
  | mk {α : Type} (f : α → V) (x : α) (m : Nat) (hn : n.den = m) (hb : m * bytes ≤ 140737488355328) (hm : m ≤ LIM) (hz : CEqL zero (cells (f x))) (hk : ∀ l, l = List.replicate m x → k α f l) : MakeP bytes n zero k
/-- A text out of bytes. -/
def bstr (l : List Int) : List UInt8 := l.map fun n => UInt8.ofNat n.toNat
inductive StrP (o : Own) (x : V) (k : List UInt8 → Prop) : Prop
  | mk (f : Int → V) (xs : List Int) (hx : News o 1 f xs x) (hf : ∀ n, f n = .int .u8 (.v n)) (hk : ∀ bs, bs = bstr xs → k bs) : StrP o x k
/-- A text's byte. -/
inductive ElemS (e : SE) (i : IE) (k : UInt8 → Prop) : Prop
  | mk (h0 : 0 ≤ i.den) (h1 : i.den < e.den.length) (hk : ∀ b, e.den[i.den.toNat]? = some b → k b) : ElemS e i k
/-- A part of a text. -/
inductive SubS (e : SE) (lo hi : IE) (k : List UInt8 → Prop) : Prop
  | mk (h0 : 0 ≤ lo.den) (h1 : lo.den ≤ hi.den) (h2 : hi.den ≤ e.den.length) (hk : k ((e.den.drop lo.den.toNat).take (hi.den.toNat - lo.den.toNat))) : SubS e lo hi k
/-- A call. -/
def ACalls (P : Program) (G : Glb) (f : FuncId) (args : List V) (o : Own) (R : V → Own → Prop) : Prop :=
  (∃ fn, P.funcs[f]? = some fn ∧ (fn.name == "runtime.NumGoroutine") = false ∧ fn.body.isNone = false) ∧
  ∀ (w : World) (F : Nat → Prop) (β : Bt) (vs : Array Value), vs.size = args.length → (∀ (i : Nat) (v : Value) (x : V), vs[i]? = some v → args[i]? = some x → RA w F β o v x) → OwnOk w F β o → GlbOk G w F →
    (∀ b, F b → b < w.heap.size) → (∀ id, olook o id = none → β id = none) →
    Calls P f vs w (fun e w' => ∃ v r o' F' β', e = .returned v ∧ R r o' ∧ (∀ b, F b → F' b) ∧ (∀ b, b < w.heap.size → F' b → F b) ∧ (∀ b, F' b → b < w'.heap.size) ∧
      RA w' F' β' o' v r ∧ OwnOk w' F' β' o' ∧ (∀ id, olook o' id = none → β' id = none) ∧ Keep (fun b => ∃ id ent, olook o id = some ent ∧ β id = some b) w w' ∧
      (∀ id ent b, olook o' id = some ent → β' id = some b → w.heap.size ≤ b ∨ ∃ id' ent', olook o id' = some ent' ∧ β id' = some b) ∧
      (∀ id ent0 ent, olook o id = some ent0 → olook o' id = some ent → pinned ent0 = true → Same w β o w' β' o' id id))

theorem ACalls.mono {P : Program} {G : Glb} {f : FuncId} {args : List V} {o : Own} {R R' : V → Own → Prop} (h : ACalls P G f args o R) (hr : ∀ r o', R r o' → R' r o') : ACalls P G f args o R' :=
  ⟨h.1, fun w F β vs h1 h2 h3 h4 h5 h6 => (h.2 w F β vs h1 h2 h3 h4 h5 h6).mono fun _ _ ⟨v, r, o', F', β', a, b, c⟩ => ⟨v, r, o', F', β', a, hr _ _ b, c⟩⟩

/-- Own lists seen as data. -/
def sview (o : Own) : Sub := ⟨fun id => match olook o id with
  | some (.arr _ _ sz f l) => .sl sz f l
  | _ => .junk, fun _ _ => .junk, fun _ _ _ => .junk⟩
-- Values without memory.
mutual
def flat : V → Bool
  | .int _ _ => true
  | .bool _ => true
  | .str _ => true
  | .tup vs => flatl vs
  | .agg vs => flatl vs
  | .nilfn => true
  | .nilptr => true
  | _ => false
def flatl : List V → Bool
  | [] => true
  | x :: r => flat x && flatl r
end
-- Which own lists a value leans on.
mutual
def oslIds : V → List Nat
  | .osl id => [id]
  | .agg vs => oslIdsl vs
  | .tup vs => oslIdsl vs
  | .fn _ xs ys => oslIdsl xs ++ oslIdsl ys
  | _ => []
def oslIdsl : List V → List Nat
  | [] => []
  | x :: r => oslIds x ++ oslIdsl r
end

def allLow : List Nat → Bool
  | [] => true
  | x :: r => (ltN x 10000) && allLow r

/-- A call whose answer is known. -/
def AVal (P : Program) (G : Glb) (f : FuncId) (args : List V) (r : V) : Prop := ACalls P G f args [] (fun x _ => x = r)

def subFz : List Nat → St → List V → List V
  | [], _, vs => vs
  | id :: r, s, vs => match olook s.o id with
    | some (.arr _ _ sz f l) => subFz r (frz1 s id) (V.subl (sfrz id (.sl sz f l)) vs)
    | _ => subFz r (frz1 s id) vs

def oids : Own → List Nat
  | [] => []
  | (k, _) :: r => k :: oids r
mutual
/-- What is told of a value may be told so. -/
inductive LeP (o : Own) : V → V → Prop
  | same (x : V) : LeP o x x
  | junk (x : V) : LeP o x .junk
  | int (k : IntKind) (e e' : IE) (h : e.den = e'.den) : LeP o (.int k e) (.int k e')
  | bool (e e' : BE) (h : e.den = e'.den) : LeP o (.bool e) (.bool e')
  | str (e e' : SE) (h : e.den = e'.den) : LeP o (.str e) (.str e')
  | sl (sz : Nat) {α : Type} (f : α → V) (l l' : List α) (h : l = l') : LeP o (.sl sz f l) (.sl sz f l')
  | sl' (sz : Nat) (x : V) (es : List V) (hx : x.elems = some (sz, es)) {α : Type} (f : α → V) (l : List α) (hl : es.length = l.length) (h : ∀ (i : Nat) (e : V) (p : α), es[i]? = some e → l[i]? = some p → VEq e (f p)) : LeP o x (.sl sz f l)
  | nil (sz : Nat) {α : Type} (f : α → V) (l : List α) (h : l = []) : LeP o .nilsl (.sl sz f l)
  | own (id : Nat) (fx : Bool) (e : TypeId) (sz : Nat) {α : Type} (f : α → V) (l : List α) (ho : olook o id = some (.arr fx e sz f l)) (h : l = []) : LeP o .nilsl (.osl id)
  | agg (xs ys : List V) (h : LePl o xs ys) : LeP o (.agg xs) (.agg ys)
  | tup (xs ys : List V) (h : LePl o xs ys) : LeP o (.tup xs) (.tup ys)
  | fn (f : FuncId) (xs xs' ys ys' : List V) (h : LePl o xs xs') (h' : LePl o ys ys') : LeP o (.fn f xs ys) (.fn f xs' ys')
inductive LePl (o : Own) : List V → List V → Prop
  | nil : LePl o [] []
  | cons (x y : V) (xs ys : List V) (h : LeP o x y) (r : LePl o xs ys) : LePl o (x :: xs) (y :: ys)
end

inductive EntLe (o : Own) : Ent → Ent → Prop
  | same (e : Ent) : EntLe o e e
  | var (xs ys : List V) (h : LePl o xs ys) : EntLe o (.var xs) (.var ys)
  | arr (fx : Bool) (e : TypeId) (sz : Nat) {α : Type} (f : α → V) (l l' : List α) (h : l = l') : EntLe o (.arr fx e sz f l) (.arr fx e sz f l')
  | arr' (fx : Bool) (e : TypeId) (sz : Nat) {α β : Type} (f : α → V) (f' : β → V) (l : List α) (l' : List β) (hl : l.length = l'.length) (h : ∀ (i : Nat) p p', l[i]? = some p → l'[i]? = some p' → VEq (f p) (f' p')) :
      EntLe o (.arr fx e sz f l) (.arr fx e sz f' l')
  /-- It stays where it is from now on. -/
  | pin (e : TypeId) (sz : Nat) {α : Type} (f : α → V) (l l' : List α) (h : l = l') : EntLe o (.arr false e sz f l) (.arr true e sz f l')

def leO (o' : Own) : Own → Own → Prop
  | _, [] => True
  | o, (x, _) :: r => match olook o x, olook o' x with
    | some e, some e' => EntLe o' e e' ∧ leO o' o r
    | _, _ => False
/-- Own things by other numbers. -/
def srn (ι : Nat → Option Nat) : Sub := ⟨fun id => match ι id with
    | some x => .osl x
    | none => .junk, fun id off => match ι id with
    | some x => .ptr x off
    | none => .junk, fun id i off => match ι id with
    | some x => .eptr x i off
    | none => .junk⟩

/-! A call that is handed own things: by which numbers ('outs': here, there, is it another one behind the call). -/
abbrev Outs := List (Nat × Nat × Bool)
def kap : Outs → Nat → Option Nat
  | [], _ => none
  | (x, c, _) :: r, n => bif (eqN x n) then some c else kap r n
def iot : Outs → Nat → Option Nat
  | [], _ => none
  | (x, c, _) :: r, n => bif (eqN c n) then some x else iot r n
def insO : Outs → Outs
  | [] => []
  | (x, c, m) :: r => bif (ltN c 20000) then (x, c, m) :: insO r else insO r
def ocOf : Outs → St → Sub → Own
  | [], _, _ => []
  | (x, c, _) :: r, s, σ => match olook s.o x with
    | some e => (c, Ent.sub σ e) :: ocOf r s σ
    | none => ocOf r s σ
def usOf : Outs → Own → Sub → List (Nat × Bool × Ent)
  | [], _, _ => []
  | (x, c, m) :: r, o, σ => match olook o c with
    | some e => (x, m, Ent.sub σ e) :: usOf r o σ
    | none => usOf r o σ
def twice : List (Nat × Bool × Ent) → List (Nat × Bool × Ent)
  | [u] => [u, u]
  | us => us
def outX : Outs → List Nat
  | [] => []
  | (x, _, _) :: r => x :: outX r
def outC : Outs → List Nat
  | [] => []
  | (_, c, _) :: r => c :: outC r
def nodupN : List Nat → Bool
  | [] => true
  | x :: r => !(memN r x) && nodupN r
def subN : List Nat → List Nat → Bool
  | [], _ => true
  | x :: r, l => memN l x && subN r l
def fzOf : List Nat → List Nat → List Nat
  | [], _ => []
  | x :: r, l => bif memN l x then fzOf r l else x :: fzOf r l
/-- What may be handed over and what comes back fit. -/
def movesOk (c : Ctx) (s : St) (oc : Own) : Outs → Bool
  | [] => true
  | (x, cid, m) :: r => (bif (ltN cid 20000) then (match olook s.o x, olook oc cid with
      | some _, some e => m || pinned e
      | _, _ => false) else m) && (!m || (ltN x 10000) || !(memN c.pin x)) && movesOk c s oc r
def allHigh : List Nat → Bool
  | [] => true
  | x :: r => (leN 10000 x) && allHigh r
def ownOk (c : Ctx) (outs : Outs) (fz : List Nat) (s : St) (oc o1 : Own) : Bool :=
  nodupN (outX outs) && nodupN (outC outs) && subN (outC outs) (oids o1) && subN (oids o1) (outC outs) && allLow fz && movesOk c s oc outs && (allHigh (outX outs) || allLow (outX (insO outs)))

inductive CallP (P : Program) (c : Ctx) (f : FuncId) (vs : List V) (s : St) (data lent : List V) (ids : List Nat) (k : Out → Prop) : Prop
  /-- Data are handed over, and handed back; own lists become data. -/
  | data (r : V) (h : AVal P c.G f data r) (hl : allLow ids = true) (hd : isDatal data = true) (hr : isData r = true) (hk : V.wf r → k ⟨r, ids, []⟩) : CallP P c f vs s data lent ids k
  /-- Own lists are lent; what comes back is no memory. -/
  | lend (r : V) (h : AVal P c.G f lent r) (hr : flat r = true) (hk : V.wf r → k ⟨r, [], []⟩) : CallP P c f vs s data lent ids k
  /-- Own things are handed over, and handed back. -/
  | own (outs : Outs) (fz : List Nat) (args : List V) (oc o1 : Own) (r : V) (h : ACalls P c.G f args oc (fun x o' => x = r ∧ o' = o1)) (hc : ownOk c outs fz (frz fz s) oc o1 = true)
      (hl : LePl oc (V.subl (srn (kap (insO outs))) (subFz fz s vs)) args) (hs : subN (oids (ocOf (insO outs) (frz fz s) (srn (kap (insO outs))))) (oids oc) = true) (ho : leO oc (ocOf (insO outs) (frz fz s) (srn (kap (insO outs)))) oc)
      (hk : V.wf r → k ⟨V.sub (srn (iot outs)) r, fz, twice (usOf outs o1 (srn (iot outs)))⟩) : CallP P c f vs s data lent ids k

/-- The cells of a value of which it is known how many they are. -/
def cellsX : V → Option (List V)
  | .agg cs => some cs
  | .int k e => some [.int k e]
  | .bool b => some [.bool b]
  | .str s => some [.str s]
  | .sl sz f l => some [.sl sz f l]
  | .sls sz vs => some [.sls sz vs]
  | .nilsl => some [.nilsl]
  | .osl id => some [.osl id]
  | .view id lo n => some [.view id lo n]
  | .ptr id off => some [.ptr id off]
  | .fn f xs ys => some [.fn f xs ys]
  | .nilptr => some [.nilptr]
  | .nilfn => some [.nilfn]
  | .rptr cs => some [.rptr cs]
  | _ => none

def chk (b : BE) (k : Unit → Prop) : Prop :=
  match b with
  | .lit true => k ()
  | .lit false => False
  | b => Chk b k
def br (b : BE) (t f : Unit → Prop) : Prop :=
  match b with
  | .lit true => t ()
  | .lit false => f ()
  | b => Branch b t f

def ieOf : V → Option IE
  | .int _ e => some e
  | _ => none
def natOf : IE → Option Nat
  | .lit n => match n with
    | .ofNat n => some n
    | _ => none
  | _ => none

def fillX (c : Ctx) (e : Env) (im : List (Nat × Bool)) (place : Nat → Option (Nat × Nat)) : List (Nat × Operand) → List V → Option (List V)
  | [], cs => some cs
  | (i, x) :: r, cs => match place i, cellsX (res e im (evalO c e x)) with
    | some (off, sz), some vs => bif (eqN vs.length sz) && (leN (off + sz) cs.length) then fillX c e im place r (setAt cs off vs) else none
    | _, _ => none

def inOrder : Nat → List (Nat × Operand) → Option (List Operand)
  | _, [] => some []
  | n, (i, x) :: r => bif (eqN i n) then (match inOrder (n + 1) r with
    | some l => some (x :: l)
    | none => none) else none

def allLen (sz : Nat) : List V → Bool
  | [] => true
  | x :: r => match cellsX x with
    | some cs => (eqN cs.length sz) && allLen sz r
    | none => false

/-- An operation that only computes where something is to be shown. -/
def semiOp (c : Ctx) (im : List (Nat × Bool)) (op : Op) (s : St) : Option ((V → Prop) → Prop) :=
  match op with
  | .binOp o t x y _ => match divV o (res s.e im (evalO c s.e x)) (res s.e im (evalO c s.e y)) with
    | some (q, z) => some (fun J => chk q (fun _ => J z))
    | none => (match o, tlook c.T t, res s.e im (evalO c s.e x), res s.e im (evalO c s.e y) with
      | .eql, some ⟨.slice _, _, _, _⟩, .sl _ _ l, .nilsl => some (fun J => NilP l (fun b => J (.bool (.lit b))))
      | .neq, some ⟨.slice _, _, _, _⟩, .sl _ _ l, .nilsl => some (fun J => NilP l (fun b => J (.bool (.lit (!b)))))
      | _, _, _, _ => none)
  | .indexAddr t x i => match tlook c.T t, ieOf (res s.e im (evalO c s.e i)) with
    | some ⟨.slice el, _, _, _⟩, some ie => match tlook c.T el with
      | some ti => match res s.e im (evalO c s.e x) with
        | .sl sz f l => bif (eqN sz ti.sz) then some (fun J => ElemP f l ie (fun p => J (.rptr (cells (f p))))) else none
        | .sls sz vs => bif (eqN sz ti.sz) then (match natOf ie with
          | some n => match nthv vs n with
            | some y => some (fun J => J (.rptr (cells y)))
            | none => none
          | none => some (fun J => ElemV vs ie (fun y => J (.rptr (cells y))))) else none
        | .view id lo n => match olook s.o id with
          | some (.arr _ _ sz _ _) => bif (eqN sz ti.sz) then some (fun J => chk (cmpI .geq ie (.lit 0)) (fun _ => chk (cmpI .lss ie n) (fun _ => J (.eptr id (arI .add .i64 lo ie) 0)))) else none
          | _ => none
        | .osl id => match olook s.o id with
          | some (.arr _ _ sz _ l) => bif (eqN sz ti.sz) then some (fun J => chk (cmpI .geq ie (.lit 0)) (fun _ => chk (cmpI .lss ie (.len l)) (fun _ => J (.eptr id ie 0)))) else none
          | _ => none
        | _ => none
      | none => none
    | some ⟨.arr n el, _, _, _⟩, some ie => match tlook c.T el with
      | some ti => match res s.e im (evalO c s.e x) with
        | .rptr cs => match natOf ie with
          | some j => bif (ltN j n) && (ltN (j * ti.sz) cs.length) then some (fun J => J (.rptr (cs.drop (j * ti.sz)))) else none
          | none => bif (eqN ti.sz 1) && (eqN cs.length n) then some (fun J => ElemV cs ie (fun y => J (.rptr [y]))) else none
        | .ptr id off => match natOf ie with
          | some j => bif (ltN j n) then some (fun J => J (.ptr id (off + j * ti.sz))) else none
          | none => none
        | _ => none
      | none => none
    | _, _ => none
  | .slice t x lo hi none => match tlook c.T t with
    | some ⟨.slice el, _, _, _⟩ => match tlook c.T el, (match lo with
        | some y => ieOf (res s.e im (evalO c s.e y))
        | none => some (.lit 0)), (match hi with
        | some y => (match ieOf (res s.e im (evalO c s.e y)) with
          | some e => some (some e)
          | none => none)
        | none => some none) with
      | some ti, some l0, some h0 => match res s.e im (evalO c s.e x) with
        | .sl sz f l => bif (eqN sz ti.sz) then some (fun J => SubP l l0 (h0.getD (.len l)) (fun l' => J (.sl sz f l'))) else none
        | _ => none
      | _, _, _ => none
    | _ => none
  | .build t parts => match tlook c.T t with
    | some ⟨.struct fs, _, _, zero⟩ => match fillX c s.e im (fun i => match nthf fs i with
        | some (off, ft) => match tlook c.T ft with
          | some ti => some (off, ti.sz)
          | none => none
        | none => none) parts.toList zero with
      | some cs => some (fun J => J (.agg cs))
      | none => none
    | some ⟨.arr _ el, _, _, zero⟩ => match tlook c.T el with
      | some ti => match fillX c s.e im (fun i => some (i * ti.sz, ti.sz)) parts.toList zero with
        | some cs => some (fun J => J (.agg cs))
        | none => none
      | none => none
    | _ => none
  | .index t x i => match tlook c.T t, res s.e im (evalO c s.e x), ieOf (res s.e im (evalO c s.e i)) with
    | some ⟨.str, _, _, _⟩, .str e, some ie => some (fun J => ElemS e ie (fun b => J (byteV b)))
    | _, _, _ => none
  | _ => none

/-- A part of an own list that is only looked at, or copied. -/
def viewOp (c : Ctx) (im : List (Nat × Bool)) (op : Op) (s : St) : Option ((V → Prop) → Prop) :=
  match op with
  | .slice t x lo hi none => match tlook c.T t with
    | some ⟨.slice el, _, _, _⟩ => match tlook c.T el, (match lo with
        | some y => ieOf (res s.e im (evalO c s.e y))
        | none => some (.lit 0)), (match hi with
        | some y => (match ieOf (res s.e im (evalO c s.e y)) with
          | some e => some (some e)
          | none => none)
        | none => some none) with
      | some ti, some l0, some h0 => match res s.e im (evalO c s.e x) with
        | .osl id => match olook s.o id with
          | some (.arr _ _ sz _ l) => bif (eqN sz ti.sz) then some (fun J => ViewP l l0 (h0.getD (.len l)) (fun lo n => J (.view id lo n))) else none
          | _ => none
        | _ => none
      | _, _, _ => none
    | _ => none
  | _ => none

/-- An operation that does more than compute. -/
def effOp (P : Program) (c : Ctx) (im : List (Nat × Bool)) (op : Oper) (s : St) (K : Out → Prop) : Prop :=
  match op.op with
  | .alloc t => match op.dst, tlook c.T t with
    | some d, some ti => bif (ltN d 10000) then K ⟨.ptr d 0, [], [(d, true, .var ti.zero)]⟩ else False
    | _, _ => False
  | .box t x => match op.dst, cellsX (res s.e im (evalO c s.e x)) with
    | some d, some cs => bif (ltN d 10000) then K ⟨.ptr d 0, [], [(d, true, .var cs)]⟩ else False
    | _, _ => False
  | .store t a x => match tlook c.T t, res s.e im (evalO c s.e a), cellsX (res s.e im (evalO c s.e x)) with
    | some ti, .ptr id off, some vs => match olook s.o id with
      | some (.var cs) => bif (eqN vs.length ti.sz) && (leN (off + ti.sz) cs.length) then K ⟨.junk, [], [(id, false, .var (setAt cs off vs))]⟩ else False
      | _ => False
    | some ti, .eptr id i off, some vs => match olook s.o id with
      | some (.arr fx e sz f l) => bif (eqN vs.length ti.sz) && (leN (off + ti.sz) sz) && isDatal vs then EstoreP f l i off vs (fun l' => K ⟨.junk, [], [(id, false, .arr fx e sz f l')]⟩) else False
      | _ => False
    | _, _, _ => False
  | .load t a => match tlook c.T t, res s.e im (evalO c s.e a) with
    | some ti, .eptr id i off => match olook s.o id with
      | some (.arr _ _ _ f l) => EloadP f l i (fun p => match loadX ti ((cells (f p)).drop off) with
        | some v => K ⟨v, [], []⟩
        | none => False)
      | _ => False
    | _, _ => False
  | .slice t x lo hi none => match tlook c.T t with
    | some ⟨.slice el, _, _, _⟩ => match tlook c.T el, (match lo with
        | some y => ieOf (res s.e im (evalO c s.e y))
        | none => some (.lit 0)), (match hi with
        | some y => (match ieOf (res s.e im (evalO c s.e y)) with
          | some e => some (some e)
          | none => none)
        | none => some none) with
      | some ti, some l0, some h0 => match res s.e im (evalO c s.e x) with
        | .osl id => match olook s.o id with
          | some (.arr fx e sz f l) => bif (eqN sz ti.sz) then SubO l l0 (h0.getD (.len l)) (fun l' => bif (ltN id 10000) then K ⟨.sl sz f l', [id], []⟩ else False) (fun lo n => K ⟨.view id lo n, [], []⟩)
              (fun l' => bif (ltN id 10000) || !(memN c.pin id) then K ⟨.osl id, [], [(id, true, .arr fx e sz f l')]⟩ else False) else False
          | _ => False
        | _ => False
      | _, _, _ => False
    | _ => False
  | .convert sr d x => match tlook c.T sr, tlook c.T d with
    | some ⟨.slice el, _, _, _⟩, some ⟨.str, _, _, _⟩ => match tlook c.T el with
      | some ⟨.int .u8, _, _, _⟩ => StrP s.o (res s.e im (evalO c s.e x)) (fun bs => K ⟨.str (.v bs), [], []⟩)
      | _ => False
    | _, _ => False
  | .makeSlice t l cp => match op.dst, tlook c.T t, ieOf (res s.e im (evalO c s.e l)), (match l, cp with
      | .tmp a, .tmp b => (eqN a b)
      | .const (.int _ a), .const (.int _ b) => decide (a = b)
      | _, _ => false) with
    | some d, some ⟨.slice el, _, _, _⟩, some n, true => match tlook c.T el with
      | some ti => bif (ltN d 10000) && (ltN 0 ti.sz) then MakeP ti.bytes n ti.zero (fun _ f l => K ⟨.osl d, [], [(d, true, .arr false el ti.sz f l)]⟩) else False
      | none => False
    | _, _, _, _ => False
  | .buildSlice t n parts => match tlook c.T t, inOrder 0 parts.toList with
    | some ⟨.slice el, _, _, _⟩, some xs => match tlook c.T el with
      | some ti =>
        let vs := xs.map fun x => res s.e im (evalO c s.e x)
        let ids := oslIdsl vs
        let vs' := subFz ids s vs
        bif (eqN xs.length n) && isDatal vs' && allLen ti.sz vs' && allLow ids && (leN (n * ti.sz) 16777216) && (ltN 0 ti.sz) then (match op.dst, (eqN n 0) with
          | some d, true => bif (ltN d 10000) then EmptyP (K ⟨.sls ti.sz vs', ids, []⟩) (fun _ f => K ⟨.osl d, [], [(d, true, .arr false el ti.sz f [])]⟩) else K ⟨.sls ti.sz vs', ids, []⟩
          | some d, false => bif (ltN d 10000) && (eqN ids.length 0) then BuildP ti.sz vs' (K ⟨.sls ti.sz vs', ids, []⟩) (fun _ f l => K ⟨.osl d, [], [(d, true, .arr false el ti.sz f l)]⟩) else K ⟨.sls ti.sz vs', ids, []⟩
          | _, _ => K ⟨.sls ti.sz vs', ids, []⟩) else False
      | none => False
    | _, _ => False
  | .call ⟨.builtin .append, ⟨[x, y]⟩, ⟨[t, u]⟩⟩ => match op.dst, tlook c.T t, (eqN t u) with
    | some d, some ⟨.slice el, _, _, _⟩, true => match tlook c.T el with
      | some ti => bif (ltN d 10000) && (ltN 0 ti.sz) && (ltN 0 ti.bytes) then
        let a := res s.e im (evalO c s.e x)
        AppP ti.bytes ti.sz el a (res s.e im (evalO c s.e y)) s.o (fun _ f l => match a with
          | .osl id => bif (ltN id 10000) || !(memN c.pin id) then K ⟨.osl id, [], [(id, true, .arr false el ti.sz f l)]⟩ else False
          | _ => K ⟨.osl d, [], [(d, true, .arr false el ti.sz f l)]⟩) else False
      | none => False
    | _, _, _ => False
  | .call ⟨.builtin .copy, ⟨[x, y]⟩, ⟨[t, u]⟩⟩ => match tlook c.T t, (eqN t u) with
    | some ⟨.slice el, _, _, _⟩, true => match tlook c.T el with
      | some ti => bif (ltN 0 ti.sz) then CopyP ti.sz (res s.e im (evalO c s.e x)) (res s.e im (evalO c s.e y)) s.o (fun _ => K ⟨.int .i64 (.lit 0), [], []⟩) (fun id fx e _ f l q => K ⟨.int .i64 (.nat q), [], [(id, false, .arr fx e ti.sz f l)]⟩) else False
      | none => False
    | _, _ => False
  | .call ⟨.builtin .clear, ⟨[x]⟩, ⟨[t]⟩⟩ => match tlook c.T t with
    | some ⟨.slice el, _, _, _⟩ => match tlook c.T el with
      | some ti => bif (ltN 0 ti.sz) then ClearP ti.sz ti.zero (res s.e im (evalO c s.e x)) s.o (fun _ => K ⟨.tup [], [], []⟩) (fun id fx e _ f l => K ⟨.tup [], [], [(id, false, .arr fx e ti.sz f l)]⟩) else False
      | none => False
    | _ => False
  | .call ⟨.value f, ⟨args⟩, _⟩ => match res s.e im (evalO c s.e f) with
    | .fn f first cap =>
      let vs := first ++ args.map (fun x => res s.e im (evalO c s.e x)) ++ cap
      let ids := oslIdsl vs
      CallP P c f vs s (subFz ids s vs) (V.subl (sview s.o) vs) ids K
    | _ => False
  | _ => False

def stepOp (P : Program) (c : Ctx) (im : List (Nat × Bool)) (op : Oper) (s : St) (K : Out → Prop) : Prop :=
  match pureV c s.e s.o im op.op with
  | some v => K ⟨v, [], []⟩
  | none => match semiOp c im op.op s with
    | some q => q (fun v => K ⟨v, [], []⟩)
    | none => effOp P c im op s K

end Go.Vg
