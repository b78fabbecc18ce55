/- The own layer, part AS: soundness of the conditions of code. -/
import Derived.Test.YthnbhhifehkggaaA8
import Derived.Shelf.SlSortCmp.InsertionK
set_option maxRecDepth 4000
set_option linter.all false
set_option linter.unusedVariables false
set_option linter.unusedSimpArgs false
/- The kit's sort, as a call that is handed an own list. -/
namespace Go.Vg
open Go

section plain
variable {α : Type}
def insL (lt : α → α → Bool) (x : α) : List α → List α
  | [] => [x]
  | y :: r => bif lt y x then y :: insL lt x r else x :: y :: r
def isort (lt : α → α → Bool) : List α → List α
  | [] => []
  | x :: r => insL lt x (isort lt r)
/-- A list in order, by how two compare. -/
def sortF (F : α → α → Option Int) (l : List α) : Option (List α) := if l.length < 4611686018427387904 then some (isort (fun x y => decide ((F x y).getD 0 < 0)) l) else none
abbrev sortG (l : List α) (F : α → α → Option Int) : Option (List α) := sortF F l
theorem insL_perm (lt : α → α → Bool) (x : α) : ∀ l, (insL lt x l).Perm (x :: l)
  | [] => .refl _
  | y :: r => by
    simp only [insL]
    cases lt y x with
    | true => exact ((insL_perm lt x r).cons y).trans (.swap _ _ _)
    | false => exact .refl _
theorem isort_perm (lt : α → α → Bool) : ∀ l, (isort lt l).Perm l
  | [] => .refl _
  | x :: r => (insL_perm lt x _).trans ((isort_perm lt r).cons x)
/-- In order: no later one is less. -/
abbrev Ord (lt : α → α → Bool) (l : List α) : Prop := l.Pairwise fun a b => lt b a = false
theorem insL_ord (lt : α → α → Bool) (h1 : ∀ x y, lt x y = true → lt y x = false) (h2 : ∀ x y z, lt x y = false → lt y z = false → lt x z = false) (x : α) : ∀ l, Ord lt l → Ord lt (insL lt x l)
  | [], _ => by simp [insL, Ord]
  | y :: r, h => by
    simp only [insL]
    have h := List.pairwise_cons.1 h
    cases hl : lt y x with
    | true =>
      refine List.pairwise_cons.2 ⟨fun z hz => ?_, insL_ord lt h1 h2 x r h.2⟩
      rcases List.mem_cons.1 ((insL_perm lt x r).mem_iff.1 hz) with rfl | hz
      · exact h1 _ _ hl
      · exact h.1 z hz
    | false =>
      refine List.pairwise_cons.2 ⟨fun z hz => ?_, List.pairwise_cons.2 h⟩
      rcases List.mem_cons.1 hz with rfl | hz
      · exact hl
      · exact h2 _ _ _ (h.1 z hz) hl
theorem isort_ord (lt : α → α → Bool) (h1 : ∀ x y, lt x y = true → lt y x = false) (h2 : ∀ x y z, lt x y = false → lt y z = false → lt x z = false) : ∀ l, Ord lt (isort lt l)
  | [] => .nil
  | x :: r => insL_ord lt h1 h2 x _ (isort_ord lt h1 h2 r)
/-- There is one order. -/
theorem ord_unique (lt : α → α → Bool) : ∀ (a b : List α), a.Perm b → Ord lt a → Ord lt b → (∀ x, x ∈ a → ∀ y, y ∈ a → lt x y = false → lt y x = false → x = y) → a = b
  | [], b, hp, _, _, _ => (List.nil_perm.1 hp).symm
  | x :: a, [], hp, _, _, _ => (List.perm_nil.1 hp)
  | x :: a, y :: b, hp, ha, hb, ht => by
    have ha' := List.pairwise_cons.1 ha
    have hb' := List.pairwise_cons.1 hb
    have hy : y ∈ x :: a := hp.mem_iff.2 List.mem_cons_self
    have hx : x ∈ y :: b := hp.mem_iff.1 List.mem_cons_self
    have e : x = y := by
      rcases List.mem_cons.1 hy with h | h
      · exact h.symm
      · rcases List.mem_cons.1 hx with h' | h'
        · exact h'
        · exact ht x List.mem_cons_self y hy (hb'.1 x h') (ha'.1 y h)
    subst e
    rw [ord_unique lt a b (List.perm_cons x |>.1 hp) ha'.2 hb'.2 fun u hu v hv => ht u (List.mem_cons_of_mem _ hu) v (List.mem_cons_of_mem _ hv)]
end plain

open Go.Sort Go.Proofs in
/-- A world of which only new blocks and draws are known. -/
theorem grown_of {S : Nat → Prop} {w w' : World} (h : Keep S w w') (hS : ∀ b, ¬ S b) : ∃ q os, w' = grow (w.drewN q) os := by
  refine ⟨w'.drawn - w.drawn, w'.heap.extract w.heap.size w'.heap.size, ?_⟩
  have hd := h.output.drawn
  have e1 := h.os
  have e2 := h.tape
  have e3 := h.output.out
  have e4 : w'.heap = w.heap ++ w'.heap.extract w.heap.size w'.heap.size := by
    apply Array.ext_getElem?
    intro i
    rw [Array.getElem?_append]
    by_cases hi : i < w.heap.size
    · rw [if_pos hi]; exact h.block i hi (hS i)
    · rw [if_neg hi, Array.getElem?_extract]
      have := h.size
      by_cases hi2 : i < w'.heap.size
      · rw [if_pos (by omega), show w.heap.size + (i - w.heap.size) = i by omega]
      · rw [if_neg (by omega)]; exact Array.getElem?_eq_none (by omega)
  obtain ⟨heap', tape', drawn', os', output'⟩ := w'
  obtain ⟨heap, tape, drawn, os, output⟩ := w
  simp only at e1 e2 e3 e4 hd
  subst e1; subst e2; subst e3
  simp only [grow, World.drewN]
  congr 1
  omega

section
open Go.Shelf Go.RowKit Go.Lib Go.Sort Go.Proofs
variable {P : Program} {fs g : FuncId} {α : Type} [Inhabited α] {e : TypeId}

set_option maxHeartbeats 2000000 in
theorem acalls_sort (k : Nat) (enc : α → List Value) (f : α → V) (norm : α → α) (F : α → α → Option Int)
    (hfs : ∃ fn, P.funcs[fs]? = some fn ∧ (fn.name == "runtime.NumGoroutine") = false ∧ fn.body.isNone = false)
    (hk : ∀ x, (enc x).length = k) (h1 : ∀ x, ∀ v ∈ enc x, v.oneCell' = true) (hkp : 0 < k) (hflat : ∀ x, flat (f x) = true) (hlen : ∀ x, (cells (f x)).length = k)
    (hv : ∀ x w Fr, RD w Fr (.agg (enc x).toArray) (f (norm x)))
    (hwf : ∀ x w Fr (cs : Nat → Value), (∀ (j : Nat) y, (cells (f x))[j]? = some y → RD w Fr (cs j) y) → norm x = x ∧ ∀ j, j < k → (enc x)[j]? = some (cs j))
    (ht : ∀ x y, ∃ i, F x y = some i) (hC : ∀ x y i, F x y = some i → AVal P [] g [f x, f y] (.int .i64 (.v i)))
    (hO : SWO (fun x y => decide ((F x y).getD 0 < 0))) (hT : ∀ x y, ¬ (F x y).getD 0 < 0 → ¬ (F y x).getD 0 < 0 → x = y)
    (hS : ∀ (cf : α → α → Int), SWO (ltOf cf) → ∀ (blk cap : Nat) (d : Array α) (w : World), (∀ args w, (callFunc g args).run P w = .ok (.enter g args) w) → CmpLays P g #[] enc k cf blk 0 d.size w → HoldsK enc k w blk 0 d → blk < w.heap.size → d.size < 4611686018427387904 →
      Calls P fs #[.slice (some ⟨blk, 0, none⟩) d.size cap, .func (.func g) #[] #[]] w fun e w' => e = .returned (.tuple #[]) ∧ ∃ d' n os, PermIn 0 d.size d d' ∧ SortedIn (ltOf cf) 0 d.size d' ∧ w' = sortWorldK enc k w blk 0 n d' os)
    (hN : ∀ (p : Option Addr) (cap : Nat) (fv : Value) (w : World), Calls P fs #[.slice p 0 cap, fv] w fun e w' => e = .returned (.tuple #[]) ∧ w' = w)
    (l l' : List α) (h : sortF F l = some l') :
    ACalls P [] fs [.osl 10000, .fn g [] []] [(10000, .arr true e k f l)] (fun x o' => x = .tup [] ∧ o' = [(10000, .arr true e k f l')]) := by
  unfold sortF at h
  split at h
  case isFalse => cases h
  rename_i hlsz
  cases h
  refine ⟨hfs, fun w Fr β vs hs hvs hown hglob hF hdom => ?_⟩
  have hol : ∀ (l : List α), olook [(10000, Ent.arr true e k f l)] 10000 = some (.arr true e k f l) := fun l => rfl
  have hon : ∀ (l : List α) id, olook [(10000, Ent.arr true e k f l)] id ≠ none → id = 10000 := fun l id h => by
    simp only [olook] at h
    cases hb : eqN 10000 id with
    | true => exact (eqN_true hb).symm
    | false => rw [hb] at h; exact absurd rfl h
  have hs2 : vs.size = 2 := by simpa using hs
  have g0 : vs[0]? = some (vs[0]'(by omega)) := Array.getElem?_eq_getElem (by omega)
  have g1 : vs[1]? = some (vs[1]'(by omega)) := Array.getElem?_eq_getElem (by omega)
  obtain ⟨fx1, e1, sz1, α1, f1, l1, q1, q2⟩ := RA.of_osl (hvs 0 _ _ g0 rfl)
  obtain ⟨fs', cs', q3, q4, q5, _⟩ := RA.of_fn (hvs 1 _ _ g1 rfl)
  rw [hol] at q1
  simp only [Option.some.injEq, Ent.arr.injEq] at q1
  obtain ⟨rfl, rfl, rfl, rfl, hf, hl⟩ := q1
  have hl := eq_of_heq hl
  subst hl
  have hfs' : fs' = #[] := Array.eq_empty_of_size_eq_zero q4
  have hcs' : cs' = #[] := Array.eq_empty_of_size_eq_zero q5
  subst hfs'; subst hcs'
  have hvs2 : ∀ v0, vs[0]'(by omega) = v0 → vs = #[v0, .func (.func g) #[] #[]] := fun v0 h0 => by
    apply Array.ext
    · simpa using hs2
    · intro i h1' h2'
      simp at h2'
      match i, h2' with
      | 0, _ => simpa using h0
      | 1, _ => simpa using q3
  have htup : ∀ {w : World} {F : Nat → Prop} {β : Bt} {o : Own}, RA w F β o (.tuple #[]) (.tup []) := .d _ _ (.tup #[] [] rfl (fun i c x h => by simp at h))
  rcases q2 with ⟨rfl, hv0⟩ | ⟨b, c, cur, hb, hv0, hc1, hc2, hc3, hc4, hc5⟩
  · rw [hvs2 _ hv0]
    refine (hN none 0 _ w).mono ?_
    rintro en w' ⟨rfl, rfl⟩
    exact ⟨_, _, _, Fr, β, rfl, ⟨rfl, rfl⟩, fun _ h => h, fun _ _ h => h, hF, htup, hown, hdom, Keep.refl _ _, fun id ent b h h' => .inr ⟨ent, h, h'⟩, fun id e0 en h h' _ => by
      have := hon _ id (by rw [h]; simp)
      subst this
      exact ⟨rfl, fun cs h => ⟨cs, h⟩, fun fx e sz α f l h => ⟨fx, α, f, l, h, rfl, fun b cur hb hc => ⟨cur, hc, rfl⟩⟩, fun α f l h => ⟨α, f, l, h⟩⟩⟩
  rw [hvs2 _ hv0]
  rcases hown.ent 10000 _ (hol l) with ⟨k1, _⟩ | ⟨b', cur', m1, m2, m3, m4, m5, m6⟩
  · rw [k1] at hb; cases hb
  rw [hb] at m1; cases m1
  rw [hc4] at m3; cases m3
  -- what lies there
  have cell : ∀ (i : Nat) p, l[i]? = some p → norm p = p ∧ ∀ j, j < k → cur[i * k + j]? = (enc p)[j]? ∧ ∃ v, (enc p)[j]? = some v := fun i p hp => by
    obtain ⟨r1, r2⟩ := m6 i p hp
    have := hwf p w Fr (fun j => (cur[i * k + j]?).getD undef) fun j y hy => by
      obtain ⟨cv, s1, s2⟩ := r2 j y hy
      simpa [s1] using s2
    refine ⟨this.1, fun j hj => ?_⟩
    have h3 := this.2 j hj
    have hy : j < (cells (f p)).length := by rw [hlen]; exact hj
    obtain ⟨cv, s1, s2⟩ := r2 j _ (List.getElem?_eq_getElem hy)
    simp only [s1, Option.getD_some] at h3
    exact ⟨by rw [s1, h3], cv, h3⟩
  let cf : α → α → Int := fun x y => (F (norm x) (norm y)).getD 0
  have hcf : SWO (ltOf cf) := ⟨fun x => hO.irrefl (norm x), fun x y z => hO.trans (norm x) (norm y) (norm z), fun x y z => hO.ntrans (norm x) (norm y) (norm z)⟩
  have hsz : l.toArray.size = l.length := by simp
  have flat0 : ∀ i j (hi : i < l.length), j < k → (flatK enc k l.toArray)[i * k + j]! = (cur[i * k + j]?).getD undef := fun i j hi hj => by
    have hlt : i * k + j < l.toArray.size * k := by
      have : (i + 1) * k ≤ l.length * k := Nat.mul_le_mul_right _ hi
      rw [Nat.add_mul, Nat.one_mul] at this
      rw [hsz]; omega
    rw [get_flatK _ _ _ _ hlt]
    have hd : (i * k + j) / k = i := by rw [Nat.mul_comm, Nat.mul_add_div hkp, Nat.div_eq_of_lt hj]; rfl
    have hm : (i * k + j) % k = j := by rw [Nat.mul_comm, Nat.mul_add_mod, Nat.mod_eq_of_lt hj]
    rw [hd, hm]
    have hp : l.toArray[i]! = l[i] := by simp [hi]
    rw [hp]
    obtain ⟨_, h2⟩ := cell i l[i] (List.getElem?_eq_getElem hi)
    obtain ⟨h3, v, h4⟩ := h2 j hj
    rw [h3, h4]
    simp [getElem!_def, h4]
  have hH : HoldsK enc k w b 0 l.toArray := by
    intro t htt
    rw [size_flatK, hsz] at htt
    have hi : t / k < l.length := (Nat.div_lt_iff_lt_mul hkp).2 htt
    have hj := Nat.mod_lt t hkp
    have e0 : t / k * k + t % k = t := by rw [Nat.mul_comm]; exact Nat.div_add_mod _ _
    have := flat0 (t / k) (t % k) hi hj
    rw [e0] at this
    have hcl : t < cur.size := by
      have : l.length * k ≤ cur.size := m4
      omega
    rw [this, Array.getElem?_eq_getElem hcl]
    simp [World.cell?, World.frozen?, hc4, hcl]
  have hbl := blk_lt hc4
  obtain ⟨fng, hg1, hg2, hg3⟩ := (hC default default _ (ht default default).choose_spec).1
  have eg : ∀ args w, (callFunc g args).run P w = .ok (.enter g args) w := fun args w => by
    have h1 : ¬ fng.name = "runtime.NumGoroutine" := by simpa using hg2
    have h2 : ¬ fng.body = none := by cases hx : fng.body <;> simp_all
    simp [callFunc, hg1, h1, h2]
  have hcmp : CmpLays P g #[] enc k cf b 0 l.toArray.size w := by
    intro m os dk hdk x y
    generalize sortWorldK enc k w b 0 m dk os = W
    obtain ⟨i, hi⟩ := ht (norm x) (norm y)
    have hcall := (hC _ _ i hi).2 W (fun _ => False) (fun _ => none) #[.agg (enc x).toArray, .agg (enc y).toArray] rfl (fun j v u h1 h2 => by
      match j with
      | 0 => simp at h1 h2; subst h1; subst h2; exact .d _ _ (hv x _ _)
      | 1 => simp at h1 h2; subst h1; subst h2; exact .d _ _ (hv y _ _)
      | j + 2 => simp at h1) ⟨fun _ _ h => by simp [olook] at h, fun _ _ _ _ _ h => by simp [olook] at h⟩ ⟨fun _ _ h => by simp [glook] at h⟩ (fun _ h => h.elim) (fun _ _ => rfl)
    have : (#[.agg (enc x).toArray, .agg (enc y).toArray] ++ #[] : Array Value) = #[.agg (enc x).toArray, .agg (enc y).toArray] := by simp
    rw [this]
    refine hcall.mono ?_
    rintro en w' ⟨v, r', o', F', β', rfl, rfl, g1, g2, g3, g4, g5, g6, g7, _, _⟩
    obtain ⟨rfl, _⟩ := RA.of_int g4
    refine ⟨by simp only [cf, hi, Option.getD_some, IE.den], grown_of g7 (by rintro b ⟨id, ent, h, _⟩; simp [olook] at h)⟩
  have hcall := hS cf hcf b c l.toArray w eg hcmp hH hbl (by rw [hsz]; exact hlsz)
  rw [hsz] at hcall
  refine hcall.mono ?_
  rintro en w' ⟨rfl, d', n, os, hp, hso, rfl⟩
  -- the order is the one
  have hds : d'.size = l.length := by have := hp.1; simpa using this
  have hperm : d'.toList.Perm l := by
    have := hp.2.2
    have e1 : d'.extract 0 l.length = d' := by rw [← hds]; simp
    have e2 : l.toArray.extract 0 l.length = l.toArray := by rw [← hsz]; simp
    rw [e1, e2] at this
    simpa using this
  have hnorm : ∀ p, p ∈ l → norm p = p := fun p hp => by
    obtain ⟨i, hi⟩ := mem_of_getElem? hp
    exact (cell i p hi).1
  have hord : Ord (fun x y => decide ((F x y).getD 0 < 0)) d'.toList := by
    rw [Ord, List.pairwise_iff_getElem]
    intro i j hi hj hij
    have := hso i j (Nat.zero_le _) hij (by rw [← hds]; simpa using hj)
    have e1 : d'[j]! = d'.toList[j] := by rw [getElem!_pos d' j (by simpa using hj)]; rfl
    have e2 : d'[i]! = d'.toList[i] := by rw [getElem!_pos d' i (by simpa using hi)]; rfl
    rw [e1, e2] at this
    have e3 : cf d'.toList[j] d'.toList[i] = (F d'.toList[j] d'.toList[i]).getD 0 := by
      simp only [cf]
      rw [hnorm _ (hperm.mem_iff.1 (List.getElem_mem _)), hnorm _ (hperm.mem_iff.1 (List.getElem_mem _))]
    simp only [ltOf, decide_eq_false_iff_not] at this ⊢
    rwa [e3] at this
  have hasym : ∀ x y, decide ((F x y).getD 0 < 0) = true → decide ((F y x).getD 0 < 0) = false := fun x y h => by
    cases h2 : decide ((F y x).getD 0 < 0) with
    | false => rfl
    | true =>
      have h4 : decide ((F x x).getD 0 < 0) = true := hO.trans x y x h h2
      have h3 : decide ((F x x).getD 0 < 0) = false := hO.irrefl x
      rw [h4] at h3; cases h3
  have heq : d'.toList = isort (fun x y => decide ((F x y).getD 0 < 0)) l :=
    ord_unique _ _ _ (hperm.trans (isort_perm _ l).symm) hord (isort_ord _ hasym hO.ntrans l) fun x _ y _ h1 h2 => hT x y (by simpa using h1) (by simpa using h2)
  generalize isort (fun x y => decide ((F x y).getD 0 < 0)) l = l' at heq
  have hd' : d' = l'.toArray := by rw [← heq]
  subst hd'
  have hll : l'.length = l.length := by simpa using hds
  have hmem : ∀ p, p ∈ l' → p ∈ l := fun p hp => hperm.mem_iff.1 (by simpa using hp)
  generalize hW : sortWorldK enc k w b 0 n l'.toArray os = w'
  have hheap : w'.heap = (w.heap.modify b (onCells (putCells id 0 (flatK enc k l'.toArray)))) ++ os := by rw [← hW]; rfl
  have hblk' : w'.heap[b]? = some (.cells (putCells id 0 (flatK enc k l'.toArray) cur) e (0, 0)) := by
    rw [hheap, Array.getElem?_append, if_pos (by simpa using hbl), Array.getElem?_modify, if_pos rfl, hc4]; rfl
  have hcsz : (putCells id 0 (flatK enc k l'.toArray) cur).size = cur.size := by simp [putCells]
  have hget : ∀ i j, i < l'.length → j < k → (putCells id 0 (flatK enc k l'.toArray) cur)[i * k + j]? = some ((enc l'[i]!)[j]!) := fun i j hi hj => by
    have hlt : i * k + j < l'.toArray.size * k := by
      have : (i + 1) * k ≤ l'.length * k := Nat.mul_le_mul_right _ hi
      rw [Nat.add_mul, Nat.one_mul] at this
      simp; omega
    have hlc : i * k + j < cur.size := by
      have : l.length * k ≤ cur.size := m4
      rw [← hll] at this; simp at hlt; omega
    have hd : (i * k + j) / k = i := by rw [Nat.mul_comm, Nat.mul_add_div hkp, Nat.div_eq_of_lt hj]; rfl
    have hm : (i * k + j) % k = j := by rw [Nat.mul_comm, Nat.mul_add_mod, Nat.mod_eq_of_lt hj]
    have := get_flatK enc k l'.toArray _ hlt
    rw [hd, hm] at this
    simp only [putCells, Array.getElem?_mapIdx, Array.getElem?_eq_getElem hlc, Option.map_some, size_flatK, Nat.zero_le, true_and, Nat.zero_add, Nat.sub_zero, hlt, if_true, id, this]
    simp
  have hcone : ∀ v, v ∈ putCells id 0 (flatK enc k l'.toArray) cur → v.oneCell' = true := fun v hv => by
    obtain ⟨t, ht⟩ := Array.getElem?_of_mem hv
    have htl : t < cur.size := by rw [← hcsz]; exact (Array.getElem?_eq_some_iff.1 ht).1
    simp only [putCells, Array.getElem?_mapIdx, Array.getElem?_eq_getElem htl, Option.map_some, Option.some.injEq] at ht
    split at ht
    · rename_i hc
      simp only [size_flatK, Nat.zero_add, Nat.sub_zero, id, List.size_toArray] at ht hc
      have h6 : t < l'.toArray.size * k := by simpa using hc.2
      rw [get_flatK _ _ _ _ h6] at ht
      subst ht
      apply h1 (l'.toArray[t / k]!)
      have hm : t % k < (enc (l'.toArray[t / k]!)).length := by rw [hk]; exact Nat.mod_lt _ hkp
      rw [getElem!_pos (enc (l'.toArray[t / k]!)) (t % k) hm]
      exact List.getElem_mem _
    · subst ht; exact m5 _ (Array.getElem_mem _)
  refine ⟨_, _, _, Fr, β, rfl, ⟨rfl, rfl⟩, fun _ h => h, fun _ _ h => h, fun b hb => Nat.lt_of_lt_of_le (hF b hb) (by rw [hheap]; simp), htup, ⟨fun id ent he => ?_, fun id id' b ent ent' he he' _ _ => ?_⟩, fun id hid => hdom id ?_, ?_, fun id ent b he hb => .inr (by have := hon _ id (by rw [he]; simp); subst this; exact ⟨_, hol l, hb⟩), fun id e0 en he he' _ => ?_⟩
  · have := hon _ id (by rw [he]; simp)
    subst this
    rw [hol] at he; cases he
    refine .inr ⟨b, _, hb, m2, hblk', by rw [hcsz, hll]; exact m4, hcone, fun i p hp => ⟨hlen p, fun j y hy => ?_⟩⟩
    have hi : i < l'.length := (List.getElem?_eq_some_iff.1 hp).1
    have hpi : l'[i]! = p := by rw [getElem!_pos l' i hi]; exact (List.getElem?_eq_some_iff.1 hp).2
    have hj : j < k := by rw [← hlen p]; exact (List.getElem?_eq_some_iff.1 hy).1
    refine ⟨_, hget i j hi hj, ?_⟩
    rw [hpi]
    obtain ⟨i0, hi0⟩ := mem_of_getElem? (hmem p (List.mem_of_getElem? hp))
    obtain ⟨r1, r2⟩ := m6 i0 p hi0
    obtain ⟨cv, s1, s2⟩ := r2 j y hy
    obtain ⟨h3, v, h4⟩ := (cell i0 p hi0).2 j hj
    rw [s1, h4] at h3
    cases h3
    have hfy : flat y = true := by
      have := hflat p
      have hc : cellsX (f p) = some (cells (f p)) ∨ True := .inr trivial
      cases hfp : f p <;> simp only [hfp, cells] at hy this <;> first
        | (simp only [flat] at this; exact flat_mem _ this y (List.mem_of_getElem? hy))
        | (cases j with
           | zero => simp at hy; subst hy; exact this
           | succ j => simp at hy)
    have : (enc p)[j]! = cv := by simp [getElem!_def, h4]
    rw [this]
    exact flat_rd (β := fun _ => none) (o := []) (.d _ _ s2) hfy
  · have := hon _ id (by rw [he]; simp)
    have h2 := hon _ id' (by rw [he']; simp)
    rw [this, h2]
  · cases hx : olook [(10000, Ent.arr true e k f l)] id with
    | none => rfl
    | some ent => have := hon _ id (by rw [hx]; simp); subst this; rw [hol] at hid; cases hid
  · refine ⟨by rw [← hW]; rfl, by rw [← hW]; rfl, ⟨by rw [← hW]; rfl, ?_⟩, by rw [hheap]; simp, fun b' hb' hn => ?_⟩
    · rw [← hW]; simp [sortWorldK, grow, putRowK, putRow, mapBlock, Sort.ahead]
    · have hne : b ≠ b' := fun h => hn ⟨10000, _, hol l, by rw [← h]; exact hb⟩
      rw [hheap, Array.getElem?_append, if_pos (by simpa using hb'), Array.getElem?_modify, if_neg hne]
  · have := hon _ id (by rw [he]; simp)
    subst this
    rw [hol] at he; cases he
    refine ⟨rfl, fun cs h => ?_, fun fx e0 sz α' f' l0 h => ?_, fun α' f' l0 h => by rw [hol] at h; cases h⟩
    · rw [hol] at h; cases h
    · rw [hol] at h
      cases h
      refine ⟨true, α, f, l', hol l', hll, fun b0 cur0 hb0 hc0 => ?_⟩
      rw [hb] at hb0; cases hb0
      rw [hc4] at hc0; cases hc0
      exact ⟨_, hblk', hcsz⟩
end
end Go.Vg
