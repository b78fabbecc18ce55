/- The evaluation of operations that do nothing but compute, and that it is right. -/
import Derived.Test.YtnapnedfhimikaaDoorVgEq
import Derived.Laws.Entries
import Derived.Laws.Tables
import Derived.Laws.Cells
set_option maxRecDepth 4000
set_option linter.all false
set_option linter.unusedVariables false
set_option linter.unusedSimpArgs false
namespace Go.Vg
open Go

/-! ### Tables of types and of variables -/

inductive TD
  | int (k : IntKind) | bool | str | slice (e : TypeId) | arr (n : Nat) (e : TypeId) | struct (fs : List (Nat × TypeId)) | ptr (e : TypeId) | fn | map (k e : TypeId) | other
def TD.of : TypeDesc → TD
  | .int k => .int k
  | .bool => .bool
  | .string => .str
  | .slice e => .slice e
  | .array n e => .arr n e
  | .struct fs => .struct (fs.toList.map fun f => (f.offset, f.type))
  | .pointer e => .ptr e
  | .func .. => .fn
  | .map k e => .map k e
  | _ => .other
def TD.isAgg : TD → Bool
  | .struct _ => true
  | .arr _ _ => true
  | _ => false
structure TI : Type 1 where
  d : TD
  sz : Nat
  bytes : Nat
  zero : List V
abbrev Tab := List (TypeId × TI)
def tlook : Tab → Nat → Option TI
  | [], _ => none
  | (k, v) :: r, n => bif (eqN k n) then some v else tlook r n
abbrev Glb := List (Nat × List V)
def glook : Glb → Nat → Option (List V)
  | [], _ => none
  | (k, v) :: r, n => bif (eqN k n) then some v else glook r n

def lo : IntKind → Int
  | .i8 => -128 | .i16 => -32768 | .i32 => -2147483648 | .i64 => -9223372036854775808 | _ => 0
def hi : IntKind → Int
  | .i8 => 127 | .i16 => 32767 | .i32 => 2147483647 | .i64 => 9223372036854775807
  | .u8 => 255 | .u16 => 65535 | .u32 => 4294967295 | .u64 => 18446744073709551615
theorem lo_eq (k : IntKind) : lo k = k.min := by cases k <;> rfl
theorem hi_eq (k : IntKind) : hi k = k.max := by cases k <;> rfl
theorem has_iff (k : IntKind) (n : Int) : k.has n ↔ lo k ≤ n ∧ n ≤ hi k := by rw [lo_eq, hi_eq]; rfl
def hasB (k : IntKind) (n : Int) : Bool := decide (lo k ≤ n) && decide (n ≤ hi k)
theorem hasB_has {k : IntKind} {n : Int} (h : hasB k n = true) : k.has n := by
  simpa [hasB, has_iff] using h

def constV1 : Value → V
  | .int k n => bif hasB k n then .int k (.lit n) else .junk
  | .bool b => .bool (.lit b)
  | .slice none 0 0 => .nilsl
  | .pointer none => .nilptr
  | .nilFunc => .nilfn
  | .string s => bif (leN s.data.toList.length 1000) then .str (.lit s.data.toList) else .junk
  | .func (.func f) ⟨[]⟩ ⟨[]⟩ => .fn f [] []
  | _ => .junk

def constV (v : Value) : V :=
  match v with
  | .agg ⟨cs⟩ => bif cs.all Value.oneCell' then .agg (cs.map constV1) else .junk
  | v => constV1 v
theorem constV1_rd (w : World) (F : Nat → Prop) (v : Value) : RD w F v (constV1 v) := by
  unfold constV1
  split
  case h_1 k n =>
    cases h : hasB k n
    · exact .junk _
    · exact .int k _ n rfl (hasB_has h)
  case h_2 => exact .bool _ _ rfl
  case h_3 => exact .nilsl _ 0 rfl
  case h_4 => exact .nilptr
  case h_5 => exact .nilfn
  case h_6 s =>
    cases h : (leN s.data.toList.length 1000)
    · exact .junk _
    · refine .str _ _ rfl ?_
      have := leN_true h
      simp only [SE.den, LIM]
      omega
  case h_7 f => exact .fn f
  case h_8 => exact .junk _

theorem constV_rd (w : World) (F : Nat → Prop) (v : Value) : RD w F v (constV v) := by
  unfold constV
  split
  · rename_i cs
    cases h : cs.all Value.oneCell' with
    | false => exact .junk _
    | true =>
      refine .agg _ _ (by simp) (fun c hc => List.all_eq_true.1 h c (by simpa using hc)) fun i c x hi hx => ?_
      rw [List.getElem?_map, Option.map_eq_some_iff] at hx
      obtain ⟨c', hc', rfl⟩ := hx
      have : cs[i]? = some c := by simpa using hi
      rw [this] at hc'; cases hc'
      exact constV1_rd w F c
  · exact constV1_rd w F v

structure TabOk (P : Program) (T : Tab) : Prop where
  ok : ∀ t ti, tlook T t = some ti → ∃ info zv desc, P.info? t = some info ∧ P.underlying t = some desc ∧ TD.of desc = ti.d ∧ info.size = ti.sz ∧ info.bytes = ti.bytes ∧
    info.zero = some zv ∧ zv.cells.toList.map constV = ti.zero ∧ zv.cells.size = ti.sz ∧ (∀ v, v ∈ zv.cells → v.oneCell' = true) ∧ ∀ fields, desc = .struct fields → ∀ f, f ∈ fields.toList → ((P.info? f.type).map (·.size)).isSome = true

structure GlbOk (G : Glb) (w : World) (F : Nat → Prop) : Prop where
  ok : ∀ g cs, glook G g = some cs → RD w F (.pointer (some ⟨g, 0, none⟩)) (.rptr cs)

structure Ctx : Type 1 where
  T : Tab
  G : Glb
  N : Nat
  pin : List Nat
  /-- Types that are told apart cell by cell. -/
  E : List (Nat × List SK)

/-! ### What a value is, of which it is told -/
section
variable {w : World} {F : Nat → Prop} {β : Bt} {o : Own} {v : Value}
theorem RA.of_int {k : IntKind} {e : IE} (h : RA w F β o v (.int k e)) : v = .int k e.den ∧ k.has e.den := by
  generalize hx : V.int k e = x at h
  cases h with
  | d v x h => subst hx; cases h with
    | int k e n h hk => subst h; exact ⟨rfl, hk⟩
    | nilsl x sz hx => simp [V.elems] at hx
    | slice x sz es hx => simp [V.elems] at hx
  | _ => cases hx
theorem RA.of_bool {e : BE} (h : RA w F β o v (.bool e)) : v = .bool e.den := by
  generalize hx : V.bool e = x at h
  cases h with
  | d v x h => subst hx; cases h with
    | bool e n h => subst h; rfl
    | nilsl x sz hx => simp [V.elems] at hx
    | slice x sz es hx => simp [V.elems] at hx
  | _ => cases hx
theorem RA.of_str {e : SE} (h : RA w F β o v (.str e)) : v = .string ⟨e.den.toArray⟩ ∧ e.den.length ≤ LIM := by
  generalize hx : V.str e = x at h
  cases h with
  | d v x h => subst hx; cases h with
    | str e n h hl => exact ⟨by rw [h], hl⟩
    | nilsl x sz hx => simp [V.elems] at hx
    | slice x sz es hx => simp [V.elems] at hx
  | _ => cases hx
theorem RA.of_nilptr (h : RA w F β o v .nilptr) : v = .pointer none := by
  generalize hx : V.nilptr = x at h
  cases h with
  | d v x h => subst hx; cases h with
    | nilptr => rfl
    | nilsl x sz hx => simp [V.elems] at hx
    | slice x sz es hx => simp [V.elems] at hx
  | _ => cases hx
theorem RA.of_nilfn (h : RA w F β o v .nilfn) : v = .nilFunc := by
  generalize hx : V.nilfn = x at h
  cases h with
  | d v x h => subst hx; cases h with
    | nilfn => rfl
    | nilsl x sz hx => simp [V.elems] at hx
    | slice x sz es hx => simp [V.elems] at hx
  | _ => cases hx
theorem RA.of_ptr {id off : Nat} (h : RA w F β o v (.ptr id off)) : ∃ b cs, β id = some b ∧ olook o id = some (.var cs) ∧ v = .pointer (some ⟨b, off, none⟩) := by
  generalize hx : V.ptr id off = x at h
  cases h with
  | d v x h => subst hx; cases h with
    | nilsl x sz hx => simp [V.elems] at hx
    | slice x sz es hx => simp [V.elems] at hx
  | ptr id off b hb cs h => cases hx; exact ⟨b, cs, hb, h, rfl⟩
  | _ => cases hx
theorem RA.of_agg {xs : List V} (h : RA w F β o v (.agg xs)) : ∃ cs, v = .agg cs ∧ cs.size = xs.length ∧ (∀ c, c ∈ cs → c.oneCell' = true) ∧
    ∀ (i : Nat) (c : Value) (x : V), cs[i]? = some c → xs[i]? = some x → RA w F β o c x := by
  generalize hx : V.agg xs = x at h
  cases h with
  | d v x h => subst hx; cases h with
    | agg cs xs hl hone h => exact ⟨cs, rfl, hl, hone, fun i c x h1 h2 => .d _ _ (h i c x h1 h2)⟩
    | nilsl x sz hx => simp [V.elems] at hx
    | slice x sz es hx => simp [V.elems] at hx
  | agg cs xs hl hone h => cases hx; exact ⟨cs, rfl, hl, hone, h⟩
  | _ => cases hx
theorem RA.of_tup {xs : List V} (h : RA w F β o v (.tup xs)) : ∃ cs, v = .tuple cs ∧ cs.size = xs.length ∧
    ∀ (i : Nat) (c : Value) (x : V), cs[i]? = some c → xs[i]? = some x → RA w F β o c x := by
  generalize hx : V.tup xs = x at h
  cases h with
  | d v x h => subst hx; cases h with
    | tup cs xs hl h => exact ⟨cs, rfl, hl, fun i c x h1 h2 => .d _ _ (h i c x h1 h2)⟩
    | nilsl x sz hx => simp [V.elems] at hx
    | slice x sz es hx => simp [V.elems] at hx
  | tup cs xs hl h => cases hx; exact ⟨cs, rfl, hl, h⟩
  | _ => cases hx
theorem RA.of_fn {f : FuncId} {xs ys : List V} (h : RA w F β o v (.fn f xs ys)) : ∃ fs cs, v = .func (.func f) fs cs ∧ fs.size = xs.length ∧ cs.size = ys.length ∧
    (∀ (i : Nat) (c : Value) (x : V), fs[i]? = some c → xs[i]? = some x → RA w F β o c x) ∧ ∀ (i : Nat) (c : Value) (x : V), cs[i]? = some c → ys[i]? = some x → RA w F β o c x := by
  generalize hx : V.fn f xs ys = x at h
  cases h with
  | d v x h => subst hx; cases h with
    | fn => exact ⟨#[], #[], rfl, rfl, rfl, by simp, by simp⟩
    | nilsl x sz hx => simp [V.elems] at hx
    | slice x sz es hx => simp [V.elems] at hx
  | fn f fs cs xs ys hf hc h1 h2 => cases hx; exact ⟨fs, cs, rfl, hf, hc, h1, h2⟩
  | _ => cases hx
/-- A slice that nobody writes. -/
theorem RA.of_elems {x : V} {sz : Nat} {es : List V} (h : RA w F β o v x) (hx : x.elems = some (sz, es)) : RD w F v x := by
  cases h with
  | d v x h => exact h
  | _ => simp [V.elems] at hx
theorem RA.of_rptr {xs : List V} (h : RA w F β o v (.rptr xs)) : RD w F v (.rptr xs) := by
  generalize hx : V.rptr xs = x at h
  cases h with
  | d v x h => exact h
  | _ => cases hx
theorem RA.of_osl {id : Nat} (h : RA w F β o v (.osl id)) : ∃ (fx : Bool) (e : TypeId) (sz : Nat) (α : Type) (f : α → V) (l : List α), olook o id = some (.arr fx e sz f l) ∧
    ((l = [] ∧ v = .slice none 0 0) ∨ ∃ b c cur, β id = some b ∧ v = .slice (some ⟨b, 0, none⟩) l.length c ∧ l.length ≤ c ∧ c ≤ maxLen ∧ l.length ≤ LIM ∧ w.heap[b]? = some (.cells cur e (0, 0)) ∧ cur.size = c * sz) := by
  generalize hx : V.osl id = x at h
  cases h with
  | d v x h => subst hx; cases h with
    | nilsl x sz hx => simp [V.elems] at hx
    | slice x sz es hx => simp [V.elems] at hx
  | osl id b hb fx e sz f l c h hc hm hl cur hcur hcap => cases hx; exact ⟨fx, e, sz, _, f, l, h, .inr ⟨b, c, cur, hb, rfl, hc, hm, hl, hcur, hcap⟩⟩
  | osl0 id fx e sz f h => cases hx; exact ⟨fx, e, sz, _, f, [], h, .inl ⟨rfl, rfl⟩⟩
  | _ => cases hx
theorem RA.of_view {id : Nat} {lo n : IE} (h : RA w F β o v (.view id lo n)) : ∃ (fx : Bool) (e : TypeId) (sz : Nat) (α : Type) (f : α → V) (l : List α) (i m : Nat), olook o id = some (.arr fx e sz f l) ∧ lo.den = (i : Int) ∧ n.den = (m : Int) ∧ i + m ≤ l.length ∧
    ((m = 0 ∧ ∃ ad c, v = .slice ad 0 c) ∨ ∃ b c cur, 0 < m ∧ β id = some b ∧ v = .slice (some ⟨b, i * sz, none⟩) m (c - i) ∧ l.length ≤ c ∧ c ≤ maxLen ∧ l.length ≤ LIM ∧ w.heap[b]? = some (.cells cur e (0, 0)) ∧ cur.size = c * sz) := by
  generalize hx : V.view id lo n = x at h
  cases h with
  | d v x h => subst hx; cases h with
    | nilsl x sz hx => simp [V.elems] at hx
    | slice x sz es hx => simp [V.elems] at hx
  | view id b hb fx e sz f l c h hc hm hl cur hcur hcap lo n i m hlo hn him hpos => cases hx; exact ⟨fx, e, sz, _, f, l, i, m, h, hlo, hn, him, .inr ⟨b, c, cur, hpos, hb, rfl, hc, hm, hl, hcur, hcap⟩⟩
  | view0 id fx e sz f l h lo n i hlo hn hi ad c => cases hx; exact ⟨fx, e, sz, _, f, l, i, 0, h, hlo, hn, hi, .inl ⟨rfl, ad, c, rfl⟩⟩
  | _ => cases hx
theorem RA.of_eptr {id off : Nat} {i : IE} (h : RA w F β o v (.eptr id i off)) : ∃ (b : Nat) (fx : Bool) (e : TypeId) (sz n : Nat) (α : Type) (f : α → V) (l : List α), β id = some b ∧ olook o id = some (.arr fx e sz f l) ∧
    i.den = (n : Int) ∧ n < l.length ∧ v = .pointer (some ⟨b, n * sz + off, none⟩) := by
  generalize hx : V.eptr id i off = x at h
  cases h with
  | d v x h => subst hx; cases h with
    | nilsl x sz hx => simp [V.elems] at hx
    | slice x sz es hx => simp [V.elems] at hx
  | eptr id off b hb fx e sz i n f l h hi hn => cases hx; exact ⟨b, fx, e, sz, n, _, f, l, hb, h, hi, hn, rfl⟩
  | _ => cases hx
end

/-! ### Operands -/

def memb : List (Nat × Bool) → Nat → Bool → Bool
  | [], _, _ => false
  | (t, b) :: r, n, c => ((eqN t n) && (b == c)) || memb r n c
theorem memb_mem {l : List (Nat × Bool)} {n : Nat} {c : Bool} (h : memb l n c = true) : (n, c) ∈ l := by
  induction l with
  | nil => simp [memb] at h
  | cons x r ih =>
    obtain ⟨t, b⟩ := x
    simp only [memb, Bool.or_eq_true, Bool.and_eq_true, beq_iff_eq] at h
    rcases h with ⟨h1, h2⟩ | h
    · have := eqN_true h1
      subst this; subst h2
      exact List.mem_cons_self
    · exact List.mem_cons_of_mem _ (ih h)

def evalO (c : Ctx) (e : Env) : Operand → V
  | .tmp t => look e t
  | .const v => constV v
  | .func f => .fn f [] []
  | .global g => match glook c.G g with
    | some cs => .rptr cs
    | none => .junk

/-- What a slot holds, where these guards hold. -/
def res (e : Env) (im : List (Nat × Bool)) (x : V) : V :=
  match x with
  | .opt t b v => bif memb im t b then v else match look e t with
    | .bool (.lit c) => bif c == b then v else .junk
    | _ => .junk
  | .nb _ => .junk
  | x => x

def RE (w : World) (F : Nat → Prop) (β : Bt) (o : Own) (tm : Array Value) (val : Value) : V → Prop
  | .opt t b v => (tm.getD t undef = .bool b ∧ RA w F β o val v) ∨ (tm.getD t undef ≠ .bool b ∧ val = undef)
  | .nb b => val ≠ .bool b
  | x => RA w F β o val x

/-- The state is as it is told. -/
structure Rel (P : Program) (c : Ctx) (w0 : World) (F0 S0 : Nat → Prop) (F : Nat → Prop) (β : Bt) (s : St) (tm : Array Value) (w : World) : Prop where
  n : tm.size = c.N
  env : ∀ t, RE w F β s.o tm (tm.getD t undef) (look s.e t)
  own : OwnOk w F β s.o
  F0F : ∀ b, F0 b → F b
  Fnew : ∀ b, b < w0.heap.size → F b → F0 b
  Flt : ∀ b, F b → b < w.heap.size
  dom : ∀ id, olook s.o id = none → β id = none
  fresh : ∀ id ent b, olook s.o id = some ent → β id = some b → w0.heap.size ≤ b ∨ S0 b
  keep : Keep S0 w0 w
  glob : GlbOk c.G w F
  tab : TabOk P c.T
  eqs : EqsOk P c.E

section
variable {P : Program} {c : Ctx} {w0 : World} {F0 S0 F : Nat → Prop} {β : Bt} {s : St} {tm : Array Value} {w : World}

theorem RE.ra {o : Own} {val : Value} {x : V} (h : RE w F β o tm val x) (h1 : ∀ t b v, x ≠ .opt t b v) (h2 : ∀ b, x ≠ .nb b) : RA w F β o val x := by
  cases x <;> first | exact h | exact absurd rfl (h1 _ _ _) | exact absurd rfl (h2 _)

theorem look_lit {t : Nat} {b : Bool} (hr : Rel P c w0 F0 S0 F β s tm w) (h : look s.e t = .bool (.lit b)) : tm.getD t undef = .bool b := by
  have := hr.env t
  rw [h] at this
  exact RA.of_bool (e := .lit b) this

theorem res_ra {a : Act} (ht : a.tmps = tm) (hr : Rel P c w0 F0 S0 F β s tm w) {im : List (Nat × Bool)} (him : ∀ t b, (t, b) ∈ im → tm.getD t undef = .bool b) (x : Operand) :
    RA w F β s.o (a.eval x) (res s.e im (evalO c s.e x)) := by
  cases x with
  | const v =>
    have h1 : ∀ v, res s.e im (constV1 v) = constV1 v := fun v => by unfold constV1; split <;> first | rfl | (split <;> rfl) | (rename_i k n; cases hasB k n <;> rfl) | (rename_i q; cases (leN q.data.toList.length 1000) <;> rfl)
    have : res s.e im (constV v) = constV v := by
      unfold constV
      split
      · rename_i cs; cases cs.all Value.oneCell' <;> rfl
      · exact h1 v
    simp only [evalO, this, Act.eval]
    exact .d _ _ (constV_rd w F v)
  | func f => exact .d _ _ (.fn f)
  | global g =>
    simp only [evalO, Act.eval]
    cases h : glook c.G g with
    | none => exact .junk _
    | some cs => exact .d _ _ (hr.glob.ok g cs h)
  | tmp t =>
    have he := hr.env t
    simp only [evalO, Act.eval, ht]
    cases hx : look s.e t with
    | opt t' b v =>
      rw [hx] at he
      simp only [RE] at he
      simp only [res]
      cases hm : memb im t' b with
      | true =>
        have h1 := him _ _ (memb_mem hm)
        rcases he with ⟨_, h2⟩ | ⟨h2, _⟩
        · exact h2
        · exact absurd h1 h2
      | false =>
        simp only [cond_false]
        split
        · rename_i c' hc'
          have h1 := look_lit hr hc'
          cases hcb : (c' == b) with
          | true =>
            simp only [beq_iff_eq] at hcb
            subst hcb
            rcases he with ⟨_, h2⟩ | ⟨h2, _⟩
            · exact h2
            · exact absurd h1 h2
          | false => exact .junk _
        · exact .junk _
    | nb b => exact .junk _
    | _ => rw [hx] at he; exact he

end
end Go.Vg
