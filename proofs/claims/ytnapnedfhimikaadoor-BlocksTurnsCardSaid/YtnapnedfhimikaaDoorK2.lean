/- A slice's parts, one after another: the iterator's contract. -/
import Derived.Test.YtnapnedfhimikaaDoorK1
set_option maxRecDepth 4000
set_option linter.all false
set_option linter.unusedVariables false
set_option linter.unusedSimpArgs false
namespace Go.Proofs.YtnapnedfhimikaaDoor
open Go Go.Vg Go.RowKit Go.Shelf

set_option maxRecDepth 100000 in
set_option maxHeartbeats 2000000 in
theorem chunk0 (l Bs Bo Ns No cap : Nat) (ad : Option Addr) (W : World) (J : Nat → World → Prop) (Jx : World → Prop) (hB : W.cell? ⟨Bs, Bo, none⟩ = some (.slice ad 0 cap)) (h0 : J 0 W) :
    CallsIn Fence.wide 1 Tryd.prog 27 #[.func (.yield l) #[] #[], .pointer (some ⟨Bs, Bo, none⟩), .pointer (some ⟨Ns, No, none⟩)] W fun e W' => (∃ v, e = .returned v) ∧ (J 0 W' ∨ Jx W') := by
  refine callsIn_of_wp Tryd.func27 rfl trivial ?_ rfl
  simp only [Tryd.ntmps27, List.size_toArray, List.length_cons, List.length_nil, Nat.reduceAdd, Nat.reduceSub, Array.replicate_succ, Array.replicate_zero, List.push_toArray, List.append_toArray, List.nil_append, List.cons_append]
  gi_wp2
  gi_loopw [4] (fun i wr => i = .int .i64 0 ∧ wr = W) (fun _ _ => 0)
  case atStart => exact ⟨rfl, rfl⟩
  case round =>
    obtain ⟨rfl, rfl⟩ := hrel
    gi_wp2
    go_end0
    exact ⟨⟨_, rfl⟩, .inl h0⟩

theorem RD.recap {w : World} {F : Nat → Prop} {a : Addr} {n c c' sz : Nat} {α : Type} {f : α → V} {l : List α} (h : RD w F (.slice (some a) n c) (.sl sz f l)) (hc : n ≤ c') : RD w F (.slice (some a) n c') (.sl sz f l) := by
  generalize hx : V.sl sz f l = x at h
  generalize hv : Value.slice (some a) n c = v at h
  cases h with
  | nilsl x sz' hx' => cases hv
  | slice x sz' es hx' hnn ad cc hc1 hl hs hF hb hsz cv hone hcv hr =>
    cases hv
    exact .slice x sz' es hx' hnn _ c' hc hl hs hF hb hsz cv hone hcv hr
  | _ => first | exact nomatch hx | exact nomatch hv

theorem rd_cell {w : World} {F : Nat → Prop} {v : Value} {y : V} (h : RD w F v (.rptr [y])) : ∃ B o u, v = .pointer (some ⟨B, o, none⟩) ∧ ¬ F B ∧ B < w.heap.size ∧ w.cell? ⟨B, o, none⟩ = some u ∧ RD w F u y := by
  generalize hx : V.rptr [y] = x at h
  cases h with
  | nilsl x sz hx' => subst hx; simp [V.elems] at hx'
  | slice x sz es hx' => subst hx; simp [V.elems] at hx'
  | rptr a xs hs hF hb cv hone hcv hr =>
    cases hx
    obtain ⟨B, o, sp⟩ := a
    simp only at hs
    subst hs
    exact ⟨B, o, cv 0, rfl, hF, hb, hcv 0 y rfl, hr 0 y rfl⟩
  | _ => cases hx

theorem cell_of_heap {w W : World} {B o : Nat} {u : Value} (h : W.heap[B]? = w.heap[B]?) (hc : w.cell? ⟨B, o, none⟩ = some u) : W.cell? ⟨B, o, none⟩ = some u := by
  unfold World.cell? at *
  rw [h]; exact hc

theorem seq_chunk {α : Type} (f : α → V) {l : List α} {n : Int} {r : List (List α)} (h : chunkF l n = some r) : SeqA Tryd.prog 27 [.rptr [.sl 1 f l], .rptr [.int .i64 (.v n)]] (r.map fun q => [.sl 1 f q]) := by
  unfold chunkF at h
  split at h
  case isFalse => cases h
  rename_i hc
  cases h
  obtain ⟨hn1, hn2, hlen⟩ := hc
  obtain ⟨n, rfl⟩ := Int.eq_ofNat_of_zero_le (show 0 ≤ n by omega)
  simp only [Int.toNat_natCast]
  replace hn1 : 1 ≤ n := by omega
  replace hn2 : n ≤ 140737488355328 := by omega
  refine ⟨enters_of Tryd.func27 (by kernel_rfl) rfl, fun w F lb hsz hlb lp J Jx st1 st2 hdat hY h0 => ?_⟩
  obtain ⟨hlb0, hlb1⟩ : (∃ v0, lb[0]? = some v0) ∧ ∃ v1, lb[1]? = some v1 := ⟨⟨_, Array.getElem?_eq_getElem (by rw [hsz]; simp)⟩, ⟨_, Array.getElem?_eq_getElem (by rw [hsz]; simp)⟩⟩
  obtain ⟨v0, hv0⟩ := hlb0
  obtain ⟨v1, hv1⟩ := hlb1
  have hlbe : lb = #[v0, v1] := by
    apply Array.ext
    · exact hsz
    · intro i h1 h2
      have h2 : i < 2 := h2
      have := Array.getElem?_eq_getElem h1
      match i, h2 with
      | 0, _ => rw [this] at hv0; simpa using hv0
      | 1, _ => rw [this] at hv1; simpa using hv1
  obtain ⟨Bs, Bo, u0, rfl, hF0, hb0, hc0, hr0⟩ := rd_cell (hlb 0 _ _ hv0 rfl)
  obtain ⟨Ns, No, u1, rfl, hF1, hb1, hc1, hr1⟩ := rd_cell (hlb 1 _ _ hv1 rfl)
  have hu1 : u1 = .int .i64 n := by
    have := RA.of_int (RA.d (β := fun _ => none) (o := []) _ _ hr1)
    exact this.1
  subst hu1
  rw [hlbe]
  have hcells : ∀ k W, J k W → W.cell? ⟨Bs, Bo, none⟩ = some u0 ∧ W.cell? ⟨Ns, No, none⟩ = some (.int .i64 n) := fun k W hJ =>
    ⟨cell_of_heap ((hdat k W hJ).2 Bs hb0 hF0) hc0, cell_of_heap ((hdat k W hJ).2 Ns hb1 hF1) hc1⟩
  obtain ⟨ad, cc, rfl, hcc, _, _⟩ := sub_rd hr0 0 0 (Nat.le_refl _) (Nat.zero_le _)
  have hESlen : ((chunkN n l).map fun q => [V.sl 1 f q]).length = (l.length + n - 1) / n := by simp [chunkN]
  rw [hESlen]
  cases ad with
  | none =>
    have hl0 : l = [] ∧ cc = 0 := by
      generalize hx : V.sl 1 f l = x at hr0
      generalize hv : Value.slice none l.length cc = v at hr0
      cases hr0 with
      | nilsl x sz' hx' =>
        subst hx
        simp only [V.elems, Option.some.injEq, Prod.mk.injEq, List.map_eq_nil_iff] at hx'
        simp only [Value.slice.injEq] at hv
        exact ⟨hx'.2, hv.2.2⟩
      | slice => exact nomatch hv
      | _ => first | exact nomatch hx | exact nomatch hv
    obtain ⟨rfl, rfl⟩ := hl0
    have hm0 : (([] : List α).length + n - 1) / n = 0 := Nat.div_eq_of_lt (by simp; omega)
    rw [hm0]
    exact callsIn_wide.1 (chunk0 lp Bs Bo Ns No 0 none w J Jx hc0 h0)
  | some a =>
    obtain ⟨b, off, sp⟩ := a
    by_cases hl0 : l = []
    · subst hl0
      have hm0 : (([] : List α).length + n - 1) / n = 0 := Nat.div_eq_of_lt (by simp; omega)
      rw [hm0]
      exact callsIn_wide.1 (chunk0 lp Bs Bo Ns No cc _ w J Jx hc0 h0)
    have hsp : sp = none := by
      generalize hx : V.sl 1 f l = x at hr0
      generalize hv : Value.slice (some ⟨b, off, sp⟩) l.length cc = v at hr0
      cases hr0 with
      | nilsl x sz' hx' => exact nomatch hv
      | slice x sz' es hx' hnn ad cc hc1 hl hs hF hb hsz cv hone hcv hr =>
        simp only [Value.slice.injEq, Option.some.injEq] at hv
        subst hx
        simp only [V.elems, Option.some.injEq, Prod.mk.injEq] at hx'
        have := hs (by rw [← hx'.2]; simpa using hl0)
        rw [← hv.1] at this
        exact this
      | _ => first | exact nomatch hx | exact nomatch hv
    subst hsp
    have hm : ∀ k, k < (l.length + n - 1) / n ↔ k * n < l.length := fun k => by
      rw [Nat.lt_div_iff_mul_lt (by omega)]
      omega
    refine callsIn_wide.1 (chunk1 lp Bs Bo Ns No b off l.length cc n _ hn1 hn2 hlen hcc hm w J Jx hcells h0 (fun k W hJ => st1 k W W.drew hJ ⟨rfl, rfl, ⟨rfl, Nat.le_succ _⟩, Nat.le_refl _, fun _ _ _ => rfl⟩) fun k W hk hJ => ?_)
    have hkn := (hm k).1 hk
    refine hY k [.sl 1 f ((l.drop (k * n)).take n)] _ W ?_ hJ rfl (fun F1 hFF i v x hi hx => ?_) 0
    · simp [chunkN, hk]
    · match i, hi, hx with
      | 0, hi, hx =>
        simp at hi hx
        subst hi; subst hx
        obtain ⟨ad', cc', e1, e2, _, e3⟩ := sub_rd hr0 (k * n) (k * n + min n (l.length - k * n)) (by omega) (by omega)
        cases e1
        have e4 : (l.drop (k * n)).take (k * n + min n (l.length - k * n) - k * n) = (l.drop (k * n)).take n := by
          rw [Nat.add_sub_cancel_left, List.take_eq_take_iff]
          simp
        rw [if_neg (by omega), e4, Nat.add_sub_cancel_left] at e3
        have e5 := RD.recap e3 (c' := min n (l.length - k * n)) (Nat.le_refl _)
        have e6 : (if k * n = 0 then (⟨b, off, none⟩ : Addr) else ⟨b, off + k * n, none⟩) = ⟨b, off + k * n, none⟩ := by split <;> simp_all
        simp only [Addr.add, Nat.mul_one, e6] at e5
        exact e5.carry fun bb hb hn => ⟨(hdat k W hJ).2 bb hb hn, fun h => hn (hFF bb hb h), Nat.lt_of_lt_of_le hb (hdat k W hJ).1⟩
      | i + 1, hi, _ => simp at hi
end Go.Proofs.YtnapnedfhimikaaDoor
