/- Operations that only compute, and read: which value they have, and that they have it. -/
import Derived.Test.YtnapnedfhimikaaDoorVgC
set_option maxRecDepth 4000
set_option linter.all false
set_option linter.unusedVariables false
set_option linter.unusedSimpArgs false
namespace Go.Vg
open Go

def loadX (ti : TI) (cs : List V) : Option V :=
  bif ti.d.isAgg then (bif (leN ti.sz cs.length) then some (.agg (cs.take ti.sz)) else none) else match cs with
    | c :: _ => some c
    | [] => none

def nthf : List (Nat × TypeId) → Nat → Option (Nat × TypeId)
  | [], _ => none
  | a :: _, 0 => some a
  | _ :: r, n + 1 => nthf r n
theorem nthf_eq (l : List (Nat × TypeId)) (n : Nat) : nthf l n = l[n]? := by
  induction l generalizing n with
  | nil => simp [nthf]
  | cons a r ih => cases n <;> simp [nthf, ih]
def nthv : List V → Nat → Option V
  | [], _ => none
  | a :: _, 0 => some a
  | _ :: r, n + 1 => nthv r n
theorem nthv_eq (l : List V) (n : Nat) : nthv l n = l[n]? := by
  induction l generalizing n with
  | nil => simp [nthv]
  | cons a r ih => cases n <;> simp [nthv, ih]

def lenV (o : Own) (x : V) : Option V :=
  match x with
  | .sl _ _ l => some (.int .i64 (.len l))
  | .sls _ vs => some (.int .i64 (.lit (Int.ofNat vs.length)))
  | .nilsl => some (.int .i64 (.lit 0))
  | .osl id => match olook o id with
    | some (.arr _ _ _ _ l) => some (.int .i64 (.len l))
    | _ => none
  | .view _ _ n => some (.int .i64 n)
  | _ => none

def lenS (x : V) : Option V :=
  match x with
  | .str (.lit l) => some (.int .i64 (.lit (Int.ofNat l.length)))
  | .str s => some (.int .i64 (.slen s))
  | _ => none

def setAt (cs : List V) (off : Nat) : List V → List V
  | [] => cs
  | v :: r => setAt (cs.set off v) (off + 1) r

def minV (mn : Bool) (x y : V) : Option V :=
  match x, y with
  | .int k a, .int k' b => bif keq k k' then some (.int k (bif mn then .mn a b else .mx a b)) else none
  | _, _ => none

def isPlain : V → Bool
  | .int _ _ => true
  | .bool _ => true
  | .str _ => true
  | .sl _ _ _ => true
  | .sls _ _ => true
  | .nilsl => true
  | .osl _ => true
  | .view _ _ _ => true
  | .ptr _ _ => true
  | .fn _ _ _ => true
  | .nilptr => true
  | .nilfn => true
  | _ => false

def andB (a b : BE) : BE :=
  match b with
  | .lit true => a
  | b => .and a b
def eqA : List SK → List V → List V → Option BE
  | k :: ks, x :: r, y :: q => match k, x, y with
    | .i, .int k a, .int k' b => bif keq k k' then (match eqA ks r q with
      | some e => some (andB (cmpI .eql a b) e)
      | none => none) else none
    | .b, .bool a, .bool b => (match eqA ks r q with
      | some e => some (andB (.beq a b) e)
      | none => none)
    | .s, .str a, .str b => (match eqA ks r q with
      | some e => some (andB (.seq a b) e)
      | none => none)
    | _, _, _ => none
  | [], [], [] => some (.lit true)
  | _, _, _ => none
/-- Equality that goes by the type. -/
def eqB (c : Ctx) (t : TypeId) (x y : V) : Option BE :=
  match tlook c.T t, x, y with
  | some ⟨.bool, _, _, _⟩, .bool a, .bool b => some (.beq a b)
  | some ⟨.fn, _, _, _⟩, .fn _ _ _, .nilfn => some (.lit false)
  | some ⟨.fn, _, _, _⟩, .nilfn, .nilfn => some (.lit true)
  | some ⟨.slice _, _, _, _⟩, .nilsl, .nilsl => some (.lit true)
  | some ⟨.struct _, _, _, _⟩, .agg xs, .agg ys => (match elook c.E t with
    | some ks => eqA ks xs ys
    | none => none)
  | some ⟨.arr _ _, _, _, _⟩, .agg xs, .agg ys => (match elook c.E t with
    | some ks => eqA ks xs ys
    | none => none)
  | _, _, _ => none
def eqV (c : Ctx) (op : BinOp) (t : TypeId) (x y : V) : Option V :=
  match op with
  | .eql => (match eqB c t x y with
    | some b => some (.bool b)
    | none => none)
  | .neq => (match eqB c t x y with
    | some b => some (.bool (notB b))
    | none => none)
  | _ => none

/-- The value of an operation that only computes. 'im': which guards hold. -/
def pureV (c : Ctx) (e : Env) (o : Own) (im : List (Nat × Bool)) (op : Op) : Option V :=
  match op with
  | .move x => some (res e im (evalO c e x))
  | .assign x => some (res e im (evalO c e x))
  | .pick cd a b => match res e im (evalO c e cd) with
    | .bool (.lit true) => some (res e im (evalO c e a))
    | .bool (.lit false) => some (res e im (evalO c e b))
    | .bool q => match cd with
      | .tmp t => match res e ((t, true) :: im) (evalO c e a), res e ((t, false) :: im) (evalO c e b) with
        | .bool x, .bool y => some (.bool (iteB q x y))
        | .int k x, .int k' y => bif keq k k' then some (.int k (.ite q x y)) else none
        | _, _ => none
      | _ => none
    | _ => none
  | .binOp op t x y _ => (match binV op (res e im (evalO c e x)) (res e im (evalO c e y)) with
    | some v => some v
    | none => eqV c op t (res e im (evalO c e x)) (res e im (evalO c e y)))
  | .unOp op _ x => match op, res e im (evalO c e x) with
    | .neg, .int k a => some (.int k (arI .sub k (.lit 0) a))
    | .not, .bool b => some (.bool (notB b))
    | _, _ => none
  | .convert s d x => match tlook c.T s, tlook c.T d, res e im (evalO c e x) with
    | some _, some ⟨.int k, _, _, _⟩, .int k' a => some (.int k (wrapI k k' a))
    | some _, some ⟨.str, _, _, _⟩, .str a => some (.str a)
    | _, _, _ => none
  | .field t x i => match tlook c.T t, res e im (evalO c e x) with
    | some ⟨.struct fs, _, _, _⟩, .agg cs => match nthf fs i with
      | some (off, ft) => match tlook c.T ft with
        | some ti => loadX ti (cs.drop off)
        | none => none
      | none => none
    | _, _ => none
  | .extract x i => match res e im (evalO c e x) with
    | .tup vs => nthv vs i
    | _ => none
  | .call ⟨.builtin .len, ⟨[x]⟩, ⟨[t]⟩⟩ => match tlook c.T t with
    | some ⟨.slice _, _, _, _⟩ => lenV o (res e im (evalO c e x))
    | some ⟨.str, _, _, _⟩ => lenS (res e im (evalO c e x))
    | _ => none
  | .call ⟨.builtin .min, ⟨[x, y]⟩, _⟩ => minV true (res e im (evalO c e x)) (res e im (evalO c e y))
  | .call ⟨.builtin .max, ⟨[x, y]⟩, _⟩ => minV false (res e im (evalO c e x)) (res e im (evalO c e y))
  | .load t x => match tlook c.T t, res e im (evalO c e x) with
    | some ti, .rptr cs => loadX ti cs
    | some ti, .ptr id off => match olook o id with
      | some (.var cs) => loadX ti (cs.drop off)
      | _ => none
    | _, _ => none
  | .fieldAddr t x i => match tlook c.T t, res e im (evalO c e x) with
    | some ⟨.struct fs, _, _, _⟩, .rptr cs => match nthf fs i with
      | some (off, ft) => match tlook c.T ft with
        | some ti => bif (ltN 0 ti.sz) && (ltN off cs.length) then some (.rptr (cs.drop off)) else none
        | none => none
      | none => none
    | some ⟨.struct fs, _, _, _⟩, .ptr id o' => match nthf fs i with
      | some (off, ft) => match tlook c.T ft with
        | some ti => bif (ltN 0 ti.sz) then some (.ptr id (o' + off)) else none
        | none => none
      | none => none
    | some ⟨.struct fs, _, _, _⟩, .eptr id ix o' => match nthf fs i with
      | some (off, ft) => match tlook c.T ft with
        | some ti => bif (ltN 0 ti.sz) then some (.eptr id ix (o' + off)) else none
        | none => none
      | none => none
    | _, _ => none
  | .makeFunc (.func f) ⟨first⟩ ⟨cap⟩ => some (.fn f (first.map fun x => res e im (evalO c e x)) (cap.map fun x => res e im (evalO c e x)))
  | .nilCheck x => match res e im (evalO c e x) with
    | .ptr id off => some (.ptr id off)
    | .rptr cs => some (.rptr cs)
    | _ => none
  | _ => none

end Go.Vg
