/- Operations in any order. -/
import Derived.Test.YtnapnedfhimikaaDoorVgR
import Derived.OrdersHeld
set_option maxRecDepth 4000
set_option linter.all false
set_option linter.unusedVariables false
set_option linter.unusedSimpArgs false
namespace Go.Vg
open Go

def memT (T : Option (List Nat)) (id : Nat) : Bool :=
  match T with
  | none => true
  | some l => memN l id
def subT (T : Option (List Nat)) : List Nat → Bool
  | [] => true
  | x :: r => memT T x && subT T r
theorem subT_mem {T : Option (List Nat)} {l : List Nat} (h : subT T l = true) {id : Nat} (hm : memT T id = false) : memN l id = false := by
  induction l with
  | nil => rfl
  | cons a r ih =>
    simp only [subT, Bool.and_eq_true] at h
    simp only [memN, ih h.2, Bool.or_false]
    cases ha : (eqN a id) with
    | false => rfl
    | true => rw [eqN_true ha] at h; rw [h.1] at hm; cases hm

def bindsV (e : Edge) : Bool :=
  match e.ground with
  | .textOnly _ => false
  | .gcOnly _ => false
  | _ => true
theorem bindsV_eq (e : Edge) : Region.binds .any e = bindsV e := by
  unfold Region.binds bindsV
  cases e.ground <;> rfl
def edgesOk (ls : List Nat) : List Edge → Bool
  | [] => true
  | e :: r => (!(bindsV e) || memN ls e.on) && edgesOk ls r
def readyV (ls : List Nat) : Nat → List Oper → List Nat
  | _, [] => []
  | i, o :: r => bif !(memN ls i) && edgesOk ls o.after.toList then i :: readyV ls (i + 1) r else readyV ls (i + 1) r

def opTmps : List Operand → List Nat
  | [] => []
  | .tmp t :: r => t :: opTmps r
  | _ :: r => opTmps r
def looksV (all : List Oper) (o : Oper) : List Nat :=
  opTmps o.op.operands.toList ++ (match o.guard with
    | some (g, _) => match gslot all g with
      | some t => [t]
      | none => []
    | none => [])
def edgeTo (i : Nat) : List Edge → Bool
  | [] => false
  | e :: r => (bindsV e && (eqN e.on i)) || edgeTo i r
def apartV (all : List Oper) (x y : Oper) : Bool :=
  (match x.dst with
   | some d => !(memN (looksV all y) d) && (match y.dst with
     | some d' => !((eqN d' d))
     | none => true)
   | none => true) &&
  (match y.dst with
   | some d => !(memN (looksV all x) d)
   | none => true)
def freeOne (all : List Oper) (i : Nat) (o : Oper) : Nat → List Oper → Bool
  | _, [] => true
  | j, p :: r => (edgeTo i p.after.toList || edgeTo j o.after.toList || apartV all o p) && freeOne all i o (j + 1) r
def freeAll (all : List Oper) : Nat → List Oper → Bool
  | _, [] => true
  | i, o :: r => freeOne all i o (i + 1) r && freeAll all (i + 1) r
def noSel : List Oper → Bool
  | [] => true
  | o :: r => (match o.op with
    | .select _ _ => false
    | _ => true) && noSel r

def loadOk (c : Ctx) (T : Option (List Nat)) (im : List (Nat × Bool)) (op : Op) (s : St) : Bool :=
  match op with
  | .load _ x => match res s.e im (evalO c s.e x) with
    | .ptr id _ => !(memT T id)
    | _ => true
  | _ => true
/-- Is this slot copied from, or to? -/
def copied (d : Option Tmp) : List Oper → Bool
  | [] => false
  | o :: r => (match o.op with
    | .call ⟨.builtin .copy, ⟨[.tmp x, .tmp y]⟩, _⟩ => dstIs d x || dstIs d y
    | _ => false) || copied d r
def tryE (c : Ctx) (all : List Oper) (T : Option (List Nat)) (im : List (Nat × Bool)) (o : Oper) (s : St) (J : V → Prop) : Option Prop :=
  match pureV c s.e s.o im o.op with
  | some v => cnd (loadOk c T im o.op s) (fun _ => some (J v)) (fun _ => none)
  | none => match semiOp c im o.op s with
    | some q => some (q J)
    | none => bif copied o.dst all then (match viewOp c im o.op s with
      | some q => some (q J)
      | none => none) else none
/-- Is it known that this guard is off? -/
def offLit : V → Bool → Bool
  | .bool (.lit b), b' => !(b == b')
  | _, _ => false
def takeE (c : Ctx) (all : List Oper) (T : Option (List Nat)) (o : Oper) (s : St) (k : St → Prop) : Option Prop :=
  match o.guard with
  | none => tryE c all T [] o s fun v => k (putO c.N s o.dst v)
  | some (g, want) => match gslot all g with
    | some t => bif dstIs o.dst t then none else match look s.e t with
      | .bool (.lit b) => cnd (b == want) (fun _ => tryE c all T [(t, want)] o s (fun v => k (putO c.N s o.dst v))) (fun _ => some (k (putO c.N s o.dst (.opt t want .junk))))
      | .bool _ => match pureV c s.e s.o [(t, want)] o.op with
        | some v => cnd (loadOk c T [(t, want)] o.op s) (fun _ => some (k (putO c.N s o.dst (.opt t want v)))) (fun _ => none)
        | none => none
      | .opt t' b' _ => bif dstIs o.dst t' then none else cnd (offLit (look s.e t') b') (fun _ => some (k (putO c.N s o.dst (.opt t want .junk)))) (fun _ => match pureV c s.e s.o [(t, want), (t', b')] o.op with
        | some v => cnd (loadOk c T [(t, want), (t', b')] o.op s) (fun _ => some (k (putO c.N s o.dst (.opt t want v)))) (fun _ => none)
        | none => none)
      | _ => none
    | none => none
def pickE (c : Ctx) (all : List Oper) (T : Option (List Nat)) (s : St) (k : Nat → St → Prop) : List Nat → Option Prop
  | [] => none
  | i :: r => match nthO all i with
    | some o => match takeE c all T o s (k i) with
      | some p => some p
      | none => pickE c all T s k r
    | none => none

def afterE (c : Ctx) (T : Option (List Nat)) (o : Oper) (k : St → Prop) (v : V) (s' : St) : Prop := cnd (subT T s'.t) (fun _ => k (putO c.N ⟨s'.e, s'.o, []⟩ o.dst v)) (fun _ => False)
def effE (P : Program) (c : Ctx) (T : Option (List Nat)) (im : List (Nat × Bool)) (o : Oper) (s : St) (k : St → Prop) : Prop :=
  stepOp P c im o s fun out => afterE c T o k out.v (s.after out)
def effG (P : Program) (c : Ctx) (T : Option (List Nat)) (o : Oper) (t : Nat) (want : Bool) (im0 : List (Nat × Bool)) (s : St) (gv : V) (k : St → Prop) : Prop :=
  match gv with
  | .bool (.lit b) => cnd (b == want) (fun _ => effE P c T ((t, want) :: im0) o s k) (fun _ => k (putO c.N s o.dst (.opt t want .junk)))
  | .bool q => Branch q
      (fun _ => let s' := setR s t (.bool (.lit true)); cnd want (fun _ => effE P c T ((t, want) :: im0) o s' k) (fun _ => k (putO c.N s' o.dst (.opt t want .junk))))
      (fun _ => let s' := setR s t (.bool (.lit false)); cnd want (fun _ => k (putO c.N s' o.dst (.opt t want .junk))) (fun _ => effE P c T ((t, want) :: im0) o s' k))
  | _ => False
def effS (P : Program) (c : Ctx) (all : List Oper) (T : Option (List Nat)) (o : Oper) (s : St) (k : St → Prop) : Prop :=
  match o.guard with
  | none => effE P c T [] o s k
  | some (g, want) => match gslot all g with
    | some t => bif dstIs o.dst t then False else match look s.e t with
      | .opt t' b' v => bif dstIs o.dst t' then False else match look s.e t' with
        | .bool (.lit b) => cnd (b == b') (fun _ => effG P c T o t want [(t', b')] (setR s t v) v k) (fun _ => k (putO c.N s o.dst (.opt t want .junk)))
        | .bool q => Branch q
          (fun _ => let s' := setR s t' (.bool (.lit true)); cnd b' (fun _ => effG P c T o t want [(t', b')] (setR s' t v) v k) (fun _ => k (putO c.N s' o.dst (.opt t want .junk))))
          (fun _ => let s' := setR s t' (.bool (.lit false)); cnd b' (fun _ => k (putO c.N s' o.dst (.opt t want .junk))) (fun _ => effG P c T o t want [(t', b')] (setR s' t v) v k))
        | _ => False
      | v => effG P c T o t want [] s v k
    | none => False
def allE (P : Program) (c : Ctx) (all : List Oper) (T : Option (List Nat)) (s : St) (k : Nat → St → Prop) : List Nat → Prop
  | [] => True
  | [i] => match nthO all i with
    | some o => effS P c all T o s (k i)
    | none => False
  | i :: r => (match nthO all i with
    | some o => effS P c all T o s (k i)
    | none => False) ∧ allE P c all T s k r
def plainV : V → Bool
  | .opt _ _ _ => false
  | .nb _ => false
  | _ => true
/-- What a guard of these operations holds is told apart. -/
def tellG (all : List Oper) : List Nat → St → (St → Prop) → Prop
  | [], s, k => k s
  | i :: r, s, k => match nthO all i with
    | some o => (match o.guard with
      | some (g, _) => (match gslot all g with
        | some t => (match look s.e t with
          | .bool (.lit _) => tellG all r s k
          | .bool q => Branch q (fun _ => tellG all r (setR s t (.bool (.lit true))) k) (fun _ => tellG all r (setR s t (.bool (.lit false))) k)
          | .opt t' b' v => cnd (plainV v) (fun _ => match look s.e t' with
            | .bool (.lit b) => cnd (b == b') (fun _ => tellG all r (setR s t v) k) (fun _ => tellG all r s k)
            | .bool q => Branch q
                (fun _ => let s' := setR s t' (.bool (.lit true)); cnd b' (fun _ => tellG all r (setR s' t v) k) (fun _ => tellG all r s' k))
                (fun _ => let s' := setR s t' (.bool (.lit false)); cnd b' (fun _ => tellG all r s' k) (fun _ => tellG all r (setR s' t v) k))
            | _ => tellG all r s k) (fun _ => tellG all r s k)
          | _ => tellG all r s k)
        | none => tellG all r s k)
      | none => tellG all r s k)
    | none => tellG all r s k
def catL : List Nat → List Nat → List Nat
  | [], l => l
  | x :: r, l => x :: catL r l
def runAny (P : Program) (c : Ctx) (all : List Oper) (T : Option (List Nat)) : Nat → List Nat → St → (St → Prop) → Prop
  | 0, ls, s, K => match readyV ls 0 all with
    | [] => K s
    | _ => False
  | n + 1, ls, s, K => pz (six ls) fun _ => match readyV ls 0 all with
    | [] => K s
    | rs => match pickE c all T s (fun i s' => runAny P c all T n (i :: ls) s' K) rs with
      | some p => p
      | none => tellG all (catL rs rs) s fun s => match pickE c all T s (fun i s' => runAny P c all T n (i :: ls) s' K) rs with
        | some p => p
        | none => allE P c all T s (fun i s' => runAny P c all T n (i :: ls) s' K) rs

/-- Which own things operations may turn. -/
def touches : List Oper → Option (List Nat)
  | [] => some []
  | o :: r => match touches r with
    | none => none
    | some l => match o.op with
      | .store _ _ _ => none
      | .alloc _ => (match o.dst with
        | some d => some (d :: l)
        | none => some l)
      | .box _ _ => (match o.dst with
        | some d => some (d :: l)
        | none => some l)
      | .makeSlice _ _ _ => (match o.dst with
        | some d => some (d :: l)
        | none => some l)
      | .call ⟨.builtin .append, _, _⟩ => none
      | .call ⟨.builtin .copy, _, _⟩ => none
      | .call ⟨.builtin .clear, _, _⟩ => none
      | _ => some l
def runDraw (P : Program) (c : Ctx) (all : List Oper) (s : St) (K : St → Prop) : Prop :=
  Draw (fun b => bif b then noSel all && freeAll all 0 all else false) (fun b => bif b then runAny P c all (touches all) all.length [] ⟨s.e, s.o, []⟩ K else True)

/-! ### That they suffice -/

def Lof (n : Nat) (ls : List Nat) : Array Bool := ((List.range n).map (memN ls)).toArray
theorem Lof_get {n : Nat} {ls : List Nat} {j : Nat} {d : Bool} : (Lof n ls).getD j d = if j < n then memN ls j else d := by
  unfold Lof
  by_cases h : j < n
  · simp [h]
  · simp [h]
theorem Lof_set {n : Nat} {ls : List Nat} {i : Nat} (hi : i < n) : (Lof n ls).setIfInBounds i true = Lof n (i :: ls) := by
  apply Array.ext
  · simp [Lof]
  · intro j h1 h2
    simp only [Lof, Array.size_setIfInBounds, List.size_toArray, List.length_map, List.length_range] at h1
    rw [Array.getElem_setIfInBounds (by simp [Lof, h1])]
    by_cases e : i = j
    · subst e; simp [Lof, memN]
    · have : j < (Lof n ls).size := by simp [Lof, h1]
      simp only [e, if_false]
      simp [Lof, memN, beq_false (Ne.symm e)]
theorem Lof_nil (n : Nat) : Array.replicate n false = Lof n [] := by
  apply Array.ext
  · simp [Lof]
  · intro j h1 h2; simp [Lof, memN]

theorem edgesOk_iff (ls : List Nat) (n : Nat) (l : List Edge) (hls : ∀ x, memN ls x = true → x < n) : edgesOk ls l = l.all (fun e => !Region.binds .any e || (Lof n ls).getD e.on false) := by
  induction l with
  | nil => rfl
  | cons e r ih =>
    simp only [edgesOk, List.all_cons, ih, bindsV_eq, Lof_get]
    congr 2
    by_cases h : e.on < n
    · simp [h]
    · simp only [h, if_false]
      cases hm : memN ls e.on with
      | false => rfl
      | true => exact absurd (hls _ hm) h

theorem readyV_eq {ops : Array Oper} (ls : List Nat) (hls : ∀ x, memN ls x = true → x < ops.size) : ∀ (l : List Oper) (i : Nat), (∀ j, l[j]? = ops[i + j]?) → i + l.length = ops.size →
    readyV ls i l = (List.range' i l.length).filter fun i => !(Lof ops.size ls).getD i true && ((ops[i]?).map (·.after.all fun e => !Region.binds .any e || (Lof ops.size ls).getD e.on false)).getD false := by
  intro l
  induction l with
  | nil => intro i _ _; rfl
  | cons o r ih =>
    intro i h hl
    have h0 : ops[i]? = some o := by simpa using (h 0).symm
    have hi : i < ops.size := (Array.getElem?_eq_some_iff.1 h0).1
    simp only [readyV, List.length_cons, List.range'_succ, List.filter_cons, h0, Option.map_some, Option.getD_some, Lof_get, hi, if_true]
    simp only [Lof_get] at ih
    rw [ih (i + 1) (fun j => by have := h (j + 1); simpa [Nat.add_assoc, Nat.add_comm 1 j] using this) (by simp at hl; omega)]
    have : o.after.all (fun e => !Region.binds .any e || (Lof ops.size ls).getD e.on false) = edgesOk ls o.after.toList := by
      rw [edgesOk_iff ls ops.size _ hls, ← Array.all_toList]
    simp only [Lof_get] at this
    rw [this]
    cases hb : (!memN ls i && edgesOk ls o.after.toList) <;> simp only [cond_true, cond_false, if_true, Bool.false_eq_true, if_false]

theorem ready_eq {ops : Array Oper} (ls : List Nat) (hls : ∀ x, memN ls x = true → x < ops.size) : Region.ready .any ops (Lof ops.size ls) = readyV ls 0 ops.toList := by
  rw [readyV_eq ls hls ops.toList 0 (by simp) (by simp)]
  unfold Region.ready
  rw [List.range_eq_range', Array.length_toList]

theorem opTmps_eq (l : List Operand) : opTmps l = l.filterMap fun | .tmp t => some t | _ => none := by
  induction l with
  | nil => rfl
  | cons a r ih => cases a <;> simp [opTmps, ih]
theorem looksV_eq {ops : Array Oper} (o : Oper) : looksV ops.toList o = o.looksAt ops := by
  unfold looksV Oper.looksAt
  rw [opTmps_eq]
  congr 1
  cases o.guard with
  | none => rfl
  | some gw =>
    obtain ⟨g, wt⟩ := gw
    simp only [gslot, nthO_eq]
    have : ops.toList[g]? = ops[g]? := by simp
    rw [this]
    cases ops[g]? with
    | none => rfl
    | some o => cases ho : o.dst <;> simp [ho]

theorem apartV_eq {ops : Array Oper} (x y : Oper) (h : apartV ops.toList x y = true) : x.apart ops y = true := by
  unfold apartV at h
  unfold Oper.apart
  rw [looksV_eq, looksV_eq] at h
  simp only [Bool.and_eq_true] at h ⊢
  obtain ⟨h1, h2⟩ := h
  refine ⟨?_, ?_⟩
  · cases hx : x.dst with
    | none => rfl
    | some d =>
      rw [hx] at h1
      simp only [Bool.and_eq_true] at h1 ⊢
      refine ⟨?_, ?_⟩
      · have := h1.1
        simp only [Bool.not_eq_true'] at this ⊢
        cases hc : (y.looksAt ops).contains d with
        | false => rfl
        | true => rw [(mem_iff _ _).2 (by simpa using hc)] at this; cases this
      · cases hy : y.dst with
        | none => simp
        | some d' =>
          have := h1.2
          rw [hy] at this
          simp only [Bool.not_eq_true'] at this
          simp only [bne_iff_ne, ne_eq, Option.some.injEq]
          intro e; subst e; simp at this
  · cases hy : y.dst with
    | none => rfl
    | some d =>
      rw [hy] at h2
      simp only [Bool.not_eq_true'] at h2 ⊢
      cases hc : (x.looksAt ops).contains d with
      | false => rfl
      | true => rw [(mem_iff _ _).2 (by simpa using hc)] at h2; cases h2
theorem apart_symm {ops : Array Oper} {x y : Oper} (h : x.apart ops y = true) : y.apart ops x = true := by
  unfold Oper.apart at *
  simp only [Bool.and_eq_true] at h ⊢
  obtain ⟨h1, h2⟩ := h
  refine ⟨?_, ?_⟩
  · cases hy : y.dst with
    | none => rfl
    | some d =>
      rw [hy] at h2
      simp only [Bool.and_eq_true]
      refine ⟨h2, ?_⟩
      cases hx : x.dst with
      | none => simp
      | some d' =>
        rw [hx, hy] at h1
        simp only [Bool.and_eq_true, bne_iff_ne, ne_eq, Option.some.injEq] at h1 ⊢
        exact fun e => h1.2 e.symm
  · cases hx : x.dst with
    | none => rfl
    | some d =>
      rw [hx] at h1
      simp only [Bool.and_eq_true] at h1
      exact h1.1

theorem edgeTo_iff (i : Nat) (l : List Edge) : edgeTo i l = true ↔ ∃ e, e ∈ l ∧ Region.binds .any e = true ∧ e.on = i := by
  induction l with
  | nil => simp [edgeTo]
  | cons e r ih =>
    simp only [edgeTo, Bool.or_eq_true, Bool.and_eq_true, ih, List.mem_cons, bindsV_eq]
    constructor
    · rintro (⟨h1, h2⟩ | ⟨e', h1, h2, h3⟩)
      · exact ⟨e, .inl rfl, h1, eqN_true h2⟩
      · exact ⟨e', .inr h1, h2, h3⟩
    · rintro ⟨e', rfl | h1, h2, h3⟩
      · left; exact ⟨h2, by rw [h3]; simp⟩
      · right; exact ⟨e', h1, h2, h3⟩

theorem freeOne_spec {all : List Oper} {i : Nat} {o : Oper} : ∀ (l : List Oper) (j : Nat), freeOne all i o j l = true → ∀ k p, l[k]? = some p → edgeTo i p.after.toList = true ∨ edgeTo (j + k) o.after.toList = true ∨ apartV all o p = true
  | [], j, h, k, p, hk => by simp at hk
  | q :: r, j, h, k, p, hk => by
    simp only [freeOne, Bool.and_eq_true, Bool.or_eq_true] at h
    cases k with
    | zero => simp at hk; subst hk; rcases h.1 with (h | h) | h <;> simp [h]
    | succ k =>
      have := freeOne_spec r (j + 1) h.2 k p (by simpa using hk)
      rwa [Nat.add_assoc, Nat.add_comm 1 k] at this
theorem freeAll_spec {all : List Oper} : ∀ (l : List Oper) (i : Nat), freeAll all i l = true → ∀ k k' o p, k < k' → l[k]? = some o → l[k']? = some p → edgeTo (i + k) p.after.toList = true ∨ edgeTo (i + k') o.after.toList = true ∨ apartV all o p = true
  | [], i, h, k, k', o, p, hlt, hk, hk' => by simp at hk
  | q :: r, i, h, k, k', o, p, hlt, hk, hk' => by
    simp only [freeAll, Bool.and_eq_true] at h
    cases k' with
    | zero => omega
    | succ k' =>
      cases k with
      | zero =>
        simp at hk; subst hk
        have := freeOne_spec r (i + 1) h.1 k' p (by simpa using hk')
        rwa [Nat.add_assoc, Nat.add_comm 1 k'] at this
      | succ k =>
        have := freeAll_spec r (i + 1) h.2 k k' o p (by omega) (by simpa using hk) (by simpa using hk')
        simpa [Nat.add_assoc, Nat.add_comm 1] using this

theorem noSel_spec {ops : Array Oper} (h : noSel ops.toList = true) (j : Nat) (o : Oper) (cs : Array SelectCase) (b : Bool) (ho : ops[j]? = some o) : o.op ≠ .select cs b := by
  have : ∀ l : List Oper, noSel l = true → ∀ o, o ∈ l → o.op ≠ .select cs b := by
    intro l
    induction l with
    | nil => simp
    | cons a r ih =>
      intro h o ho
      simp only [noSel, Bool.and_eq_true] at h
      rcases List.mem_cons.1 ho with rfl | ho
      · intro e; rw [e] at h; simp at h
      · exact ih h.2 o ho
  exact this _ h o (by simpa using Array.mem_of_getElem? ho)

/-- What operations that may come up are free of. -/
theorem free_of {ops : Array Oper} (h : freeAll ops.toList 0 ops.toList = true) {ls : List Nat} {i : Nat} {oi : Oper} (hi : ops[i]? = some oi) (hr : i ∈ Region.ready .any ops (Lof ops.size ls)) (j : Nat) (oj : Oper) (hj : ops[j]? = some oj) (hne : j ≠ i)
    (hun : (Lof ops.size ls).getD j true = false) (hno : ∀ e ∈ oj.after, Region.binds .any e = true → e.on ≠ i) : oi.apart ops oj = true := by
  obtain ⟨_, o', ho', hall⟩ := mem_ready.1 hr
  rw [hi] at ho'; cases ho'
  have hjlt : j < ops.size := (Array.getElem?_eq_some_iff.1 hj).1
  rw [Lof_get, if_pos hjlt] at hun
  have hno' : edgeTo i oj.after.toList = false := by
    cases hc : edgeTo i oj.after.toList with
    | false => rfl
    | true =>
      obtain ⟨e, h1, h2, h3⟩ := (edgeTo_iff _ _).1 hc
      exact absurd h3 (hno e (by simpa using h1) h2)
  have hno2 : edgeTo j oi.after.toList = false := by
    cases hc : edgeTo j oi.after.toList with
    | false => rfl
    | true =>
      obtain ⟨e, h1, h2, h3⟩ := (edgeTo_iff _ _).1 hc
      have := hall e (by simpa using h1) h2
      rw [h3, Lof_get, if_pos hjlt, hun] at this; cases this
  rcases Nat.lt_or_gt_of_ne hne with hlt | hlt
  · have := freeAll_spec ops.toList 0 h j i oj oi hlt (by simpa using hj) (by simpa using hi)
    rw [Nat.zero_add, Nat.zero_add, hno', hno2] at this
    rcases this with h | h | h
    · cases h
    · cases h
    · exact apart_symm (apartV_eq _ _ h)
  · have := freeAll_spec ops.toList 0 h i j oi oj hlt (by simpa using hi) (by simpa using hj)
    rw [Nat.zero_add, Nat.zero_add, hno', hno2] at this
    rcases this with h | h | h
    · cases h
    · cases h
    · exact apartV_eq _ _ h

end Go.Vg
