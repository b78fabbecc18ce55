/- The parts of a block, handed over one after another. -/
import Derived.Test.YtpjbfealfmjddaaGreatDoorA8
import Derived.RangeFuncBox
import Derived.RangeFuncLeaves
import Derived.Shelf.Abstract
import Derived.WalkKit
import Derived.OwnWalkIn
import Derived.TacticsInMore
import Derived.LoopNIn
import Derived.LoopIn
import Derived.BigRegionIn
import Derived.Test.YtpjbfealfmjddaaGreatDoorProg
set_option maxRecDepth 4000
set_option linter.all false
set_option linter.unusedVariables false
set_option linter.unusedSimpArgs false
namespace Go.Proofs.YtpjbfealfmjddaaGreatDoor
open Go Go.Vg Go.RowKit Go.Shelf

theorem w64 {x : Int} (h1 : -9223372036854775808 ≤ x) (h2 : x ≤ 9223372036854775807) : RowKit.wrap64 x = x := by unfold RowKit.wrap64; omega
set_option maxRecDepth 100000 in
set_option maxHeartbeats 2000000 in
theorem parts1 (l Bb Bo Ob Oo Sb So block order skip : Nat) (hb : block ≤ 65535) (ho : order ≤ 15) (hs : skip ≤ 65535) (W : World) (J : Nat → World → Prop) (Jx : World → Prop)
    (hB : ∀ k W, J k W → W.cell? ⟨Bb, Bo, none⟩ = some (.int .i64 block) ∧ W.cell? ⟨Ob, Oo, none⟩ = some (.int .i64 order) ∧ W.cell? ⟨Sb, So, none⟩ = some (.int .i64 skip)) (h0 : J 0 W)
    (hY : ∀ k W, k < 2 ^ order → J k W → YieldAt Fence.wide 0 Tryz.prog l #[.int .i64 k, .agg #[.int .i64 (max 0 (Int.ofNat (k * (block / 2 ^ order)) - Int.ofNat skip)), .int .i64 (Int.ofNat ((k + 1) * (block / 2 ^ order)) - Int.ofNat skip)]] W fun e W' => (e = .returned (.bool true) ∧ J (k + 1) W') ∨ (e = .returned (.bool false) ∧ Jx W')) :
    CallsIn Fence.wide 1 Tryz.prog 88 #[.func (.yield l) #[] #[], .pointer (some ⟨Bb, Bo, none⟩), .pointer (some ⟨Ob, Oo, none⟩), .pointer (some ⟨Sb, So, none⟩)] W fun e W' => (∃ v, e = .returned v) ∧ (J (2 ^ order) W' ∨ Jx W') := by
  obtain ⟨b1, b2, b3⟩ := hB 0 W h0
  refine callsIn_of_wp Tryz.func88 rfl trivial ?_ rfl
  simp only [Tryz.ntmps88, List.size_toArray, List.length_cons, List.length_nil, Nat.reduceAdd, Nat.reduceSub, Array.replicate_succ, Array.replicate_zero, List.push_toArray, List.append_toArray, List.nil_append, List.cons_append]
  gi_wp2
  have hm : (2 : Nat) ^ order ≤ 32768 := Nat.le_trans (Nat.pow_le_pow_right (by omega) ho) (by decide)
  have hp : 0 < (2 : Nat) ^ order := Nat.pow_pos (by omega)
  have hsz : (block : Int) / 2 ^ order = ((block / 2 ^ order : Nat) : Int) := by simp
  have hk2 : ∀ k : Nat, k ≤ 2 ^ order → k * (block / 2 ^ order) ≤ 65535 := fun k hk => Nat.le_trans (Nat.mul_le_mul_right _ hk) (Nat.le_trans (by rw [Nat.mul_comm]; exact Nat.div_mul_le_self _ _) hb)
  have hwm : RowKit.wrap64 (2 ^ order) = ((2 ^ order : Nat) : Int) := by
    rw [show ((2 : Int) ^ order) = ((2 ^ order : Nat) : Int) by simp]
    generalize (2 : Nat) ^ order = q at hm
    exact w64 (by omega) (by omega)
  simp only [hsz, hwm]
  generalize hS : block / 2 ^ order = S at hk2 hY
  generalize hM : (2 : Nat) ^ order = M at hm hp hk2 hY
  gi_loopw [12] (fun i wr => ∃ k : Nat, k ≤ M ∧ i = .int .i64 (k : Int) ∧ J k wr)
    (fun i _ => M - (intOf i).toNat)
  case atStart => exact ⟨0, Nat.zero_le _, by simp, h0⟩
  case round =>
    obtain ⟨k, hk, rfl, hJs⟩ := hrel
    obtain ⟨c1, c2, c3⟩ := hB k wr hJs
    by_cases hlt : k < M
    · have g1 := hk2 k hk
      have g2 := hk2 (k + 1) hlt
      have e1 : (Int.ofNat (k * S) : Int) = (k : Int) * (S : Int) := by rw [Int.ofNat_eq_natCast, Int.natCast_mul]
      have e2 : (Int.ofNat ((k + 1) * S) : Int) = ((k : Int) + 1) * (S : Int) := by rw [Int.ofNat_eq_natCast, Int.natCast_mul, Int.natCast_add]; rfl
      have hYk := hY k wr hlt hJs
      rw [e1, e2, Int.ofNat_eq_natCast] at hYk
      have g1' : (k : Int) * (S : Int) ≤ 65535 := by rw [← Int.natCast_mul]; omega
      have g2' : ((k : Int) + 1) * (S : Int) ≤ 65535 := by rw [show ((k : Int) + 1) = ((k + 1 : Nat) : Int) from rfl, ← Int.natCast_mul]; omega
      have g3 : 0 ≤ (k : Int) * (S : Int) := Int.mul_nonneg (by omega) (by omega)
      have g4 : 0 ≤ ((k : Int) + 1) * (S : Int) := Int.mul_nonneg (by omega) (by omega)
      clear hk2 e1 e2 hY hB g1 g2
      generalize hA : (k : Int) * (S : Int) = A at *
      generalize hB : ((k : Int) + 1) * (S : Int) = B at *
      have w1 : RowKit.wrap64 A = A := w64 (by omega) (by omega)
      have w2 : RowKit.wrap64 B = B := w64 (by omega) (by omega)
      have w3 : RowKit.wrap64 (A - (skip : Int)) = A - (skip : Int) := w64 (by omega) (by omega)
      have w4 : RowKit.wrap64 (B - (skip : Int)) = B - (skip : Int) := w64 (by omega) (by omega)
      have w5 : RowKit.wrap64 ((k : Int) + 1) = (k : Int) + 1 := w64 (by omega) (by omega)
      obtain ⟨fn, tmps, assign, body, hy, hR⟩ := hYk
      clear g1' g2' g3 g4 b1 b2 b3 hsz hwm hS h0 hb ho hs hm hp
      gi_wp2
      all_goals (try simp only [hA, hB, w1, w2, w3, w4])
      all_goals (try simp only [hA, hB, w1, w2, w3, w4] at h)
      · have hmx' : max 0 (A - (skip : Int)) = A - (skip : Int) := by omega
        rw [hmx'] at hy
        clear hmx' h hA hB w1 w2 w3 w4
        rw [hy]
        gi_wp2
        refine hR.mono ?_
        rintro e' W3 (⟨rfl, hJ3⟩ | ⟨rfl, hJx3⟩)
        · gi_wp2
          simp only [w5]
          go_roundw
          case rel => exact ⟨k + 1, by omega, by simp, hJ3⟩
          case measure => simp [intOf]; omega
        · gi_wp2
          refine bodyPost_ret (results_none rfl _ _ _) rfl ?_
          exact ⟨⟨_, rfl⟩, .inr hJx3⟩
      · have hmx' : max 0 (A - (skip : Int)) = 0 := by omega
        rw [hmx'] at hy
        clear hmx' h hA hB w1 w2 w3 w4
        rw [hy]
        gi_wp2
        refine hR.mono ?_
        rintro e' W3 (⟨rfl, hJ3⟩ | ⟨rfl, hJx3⟩)
        · gi_wp2
          simp only [w5]
          go_roundw
          case rel => exact ⟨k + 1, by omega, by simp, hJ3⟩
          case measure => simp [intOf]; omega
        · gi_wp2
          refine bodyPost_ret (results_none rfl _ _ _) rfl ?_
          exact ⟨⟨_, rfl⟩, .inr hJx3⟩
    · obtain rfl : k = M := by omega
      gi_wp2
      go_end0
      exact ⟨⟨_, rfl⟩, .inl (hM ▸ hJs)⟩

theorem it_parts {block order skip : Int} {r : List (Int × Arr2 Int)} (h : partsF block order skip = some r) : SeqA Tryz.prog 88 [.rptr [.int .i64 (.v block)], .rptr [.int .i64 (.v order)], .rptr [.int .i64 (.v skip)]] (r.map fun p => [e_i64 p.1, e_arr2 e_i64 p.2]) := by
  unfold partsF at h
  split at h
  case isFalse => cases h
  rename_i hc
  cases h
  obtain ⟨hb0, hb1, ho0, ho1, hs0, hs1⟩ := hc
  obtain ⟨block, rfl⟩ := Int.eq_ofNat_of_zero_le hb0
  obtain ⟨order, rfl⟩ := Int.eq_ofNat_of_zero_le ho0
  obtain ⟨skip, rfl⟩ := Int.eq_ofNat_of_zero_le hs0
  simp only [Int.toNat_natCast]
  refine ⟨enters_of Tryz.func88 (by kernel_rfl) rfl, fun w F lb hsz hlb lp J Jx st1 st2 hdat hY h0 => ?_⟩
  obtain ⟨v0, hv0⟩ : ∃ v0, lb[0]? = some v0 := ⟨_, Array.getElem?_eq_getElem (by rw [hsz]; simp)⟩
  obtain ⟨v1, hv1⟩ : ∃ v0, lb[1]? = some v0 := ⟨_, Array.getElem?_eq_getElem (by rw [hsz]; simp)⟩
  obtain ⟨v2, hv2⟩ : ∃ v0, lb[2]? = some v0 := ⟨_, Array.getElem?_eq_getElem (by rw [hsz]; simp)⟩
  have hlbe : lb = #[v0, v1, v2] := by
    apply Array.ext
    · exact hsz
    · intro i h1 h2
      have h2 : i < 3 := h2
      have := Array.getElem?_eq_getElem h1
      match i, h2 with
      | 0, _ => rw [this] at hv0; simpa using hv0
      | 1, _ => rw [this] at hv1; simpa using hv1
      | 2, _ => rw [this] at hv2; simpa using hv2
  obtain ⟨B0, o0, u0, rfl, f0, l0, c0, r0⟩ := rd_cell (hlb 0 _ _ hv0 rfl)
  obtain ⟨B1, o1, u1, rfl, f1, l1, c1, r1⟩ := rd_cell (hlb 1 _ _ hv1 rfl)
  obtain ⟨B2, o2, u2, rfl, f2, l2, c2, r2⟩ := rd_cell (hlb 2 _ _ hv2 rfl)
  obtain ⟨rfl, _⟩ := rd_int r0
  obtain ⟨rfl, _⟩ := rd_int r1
  obtain ⟨rfl, _⟩ := rd_int r2
  rw [hlbe]
  have hcells : ∀ k W, J k W → W.cell? ⟨B0, o0, none⟩ = some (.int .i64 block) ∧ W.cell? ⟨B1, o1, none⟩ = some (.int .i64 order) ∧ W.cell? ⟨B2, o2, none⟩ = some (.int .i64 skip) := fun k W hJ =>
    ⟨cell_of_heap ((hdat k W hJ).2 B0 l0 f0) c0, cell_of_heap ((hdat k W hJ).2 B1 l1 f1) c1, cell_of_heap ((hdat k W hJ).2 B2 l2 f2) c2⟩
  have hlen : ((partsN block order skip).map fun p => [e_i64 p.1, e_arr2 e_i64 p.2]).length = 2 ^ order := by simp [partsN]
  rw [hlen]
  have hm : (2 : Nat) ^ order ≤ 32768 := Nat.le_trans (Nat.pow_le_pow_right (by omega) (by omega)) (by decide : (2 : Nat) ^ 15 ≤ 32768)
  refine callsIn_wide.1 (parts1 lp B0 o0 B1 o1 B2 o2 block order skip (by omega) (by omega) (by omega) w J Jx hcells h0 fun k W hk hJ => ?_)
  have hkb : (k + 1) * (block / 2 ^ order) ≤ 65535 := Nat.le_trans (Nat.mul_le_mul_right _ (show k + 1 ≤ 2 ^ order from hk)) (Nat.le_trans (by rw [Nat.mul_comm]; exact Nat.div_mul_le_self _ _) (by omega))
  have hka : k * (block / 2 ^ order) ≤ (k + 1) * (block / 2 ^ order) := Nat.mul_le_mul_right _ (Nat.le_succ k)
  refine hY k [e_i64 (Int.ofNat k), e_arr2 e_i64 ⟨max 0 (Int.ofNat (k * (block / 2 ^ order)) - Int.ofNat skip), Int.ofNat ((k + 1) * (block / 2 ^ order)) - Int.ofNat skip⟩] _ W ?_ hJ rfl (fun F1 hFF i v x hi hx => ?_) 0
  · rw [List.getElem?_map, partsN, List.getElem?_map, List.getElem?_range hk]; rfl
  · have hin1 : IntKind.i64.has (Int.ofNat k) := by rw [has_iff]; simp only [Go.Vg.lo, Go.Vg.hi, Int.ofNat_eq_natCast]; omega
    have hin2 : IntKind.i64.has (max 0 (Int.ofNat (k * (block / 2 ^ order)) - Int.ofNat skip)) := by
      generalize k * (block / 2 ^ order) = A at hka
      rw [has_iff]; simp only [Go.Vg.lo, Go.Vg.hi, Int.ofNat_eq_natCast]; omega
    have hin3 : IntKind.i64.has (Int.ofNat ((k + 1) * (block / 2 ^ order)) - Int.ofNat skip) := by
      generalize (k + 1) * (block / 2 ^ order) = A at hkb
      rw [has_iff]; simp only [Go.Vg.lo, Go.Vg.hi, Int.ofNat_eq_natCast]; omega
    match i, hi, hx with
    | 0, hi, hx =>
      cases hi; cases hx
      exact .int _ _ _ rfl hin1
    | 1, hi, hx =>
      cases hi; cases hx
      refine .agg _ _ rfl (fun c hc => by simp at hc; rcases hc with rfl | rfl <;> rfl) (fun i c x hi hx => ?_)
      match i, hi, hx with
      | 0, hi, hx =>
        cases hi; cases hx
        exact .int _ _ _ rfl hin2
      | 1, hi, hx =>
        cases hi; cases hx
        exact .int _ _ _ rfl hin3
      | i + 2, hi, _ => simp at hi
    | i + 2, hi, _ => simp at hi
theorem w64b {x : Int} (h1 : -9223372036854775808 ≤ x) (h2 : x ≤ 9223372036854775807) : RowKit.wrap64 x = x := by unfold RowKit.wrap64; omega
set_option maxRecDepth 100000 in
set_option maxHeartbeats 2000000 in
theorem back1 (l Bb Bo b off len cap : Nat) (x : Nat → Int) (hl : len ≤ 9223372036854775807) (hcap : len ≤ cap) (W : World) (J : Nat → World → Prop) (Jx : World → Prop)
    (hB : ∀ k W, J k W → W.cell? ⟨Bb, Bo, none⟩ = some (.slice (some ⟨b, off, none⟩) len cap) ∧ ∀ i, i < len → W.cell? ⟨b, off + i, none⟩ = some (.int .i64 (x i))) (h0 : J 0 W)
    (hY : ∀ k W, k < len → J k W → YieldAt Fence.wide 0 Tryz.prog l #[.int .i64 k, .int .i64 (x (len - 1 - k))] W fun e W' => (e = .returned (.bool true) ∧ J (k + 1) W') ∨ (e = .returned (.bool false) ∧ Jx W')) :
    CallsIn Fence.wide 1 Tryz.prog 100 #[.func (.yield l) #[] #[], .pointer (some ⟨Bb, Bo, none⟩)] W fun e W' => (∃ v, e = .returned v) ∧ (J len W' ∨ Jx W') := by
  obtain ⟨b1, b2⟩ := hB 0 W h0
  refine callsIn_of_wp Tryz.func100 rfl trivial ?_ rfl
  simp only [Tryz.ntmps100, List.size_toArray, List.length_cons, List.length_nil, Nat.reduceAdd, Nat.reduceSub, Array.replicate_succ, Array.replicate_zero, List.push_toArray, List.append_toArray, List.nil_append, List.cons_append]
  gi_wp2
  gi_loopw [6] (fun i wr => ∃ k : Nat, k ≤ len ∧ i = .int .i64 (k : Int) ∧ J k wr)
    (fun i _ => len - (intOf i).toNat)
  case atStart => exact ⟨0, Nat.zero_le _, by simp, h0⟩
  case round =>
    obtain ⟨k, hk, rfl, hJs⟩ := hrel
    obtain ⟨c1, c2⟩ := hB k wr hJs
    by_cases hlt : k < len
    · have hYk := hY k wr hlt hJs
      have c3 := c2 (len - 1 - k) (by omega)
      clear hY hB b1 b2 c2 h0
      have w5 : RowKit.wrap64 ((k : Int) + 1) = (k : Int) + 1 := w64b (by omega) (by omega)
      generalize hN : len - 1 - k = N at *
      have hidx : (len : Int) - 1 - (k : Int) = (N : Int) := by omega
      have hNl : N < len := by omega
      obtain ⟨fn, tmps, assign, body, hy, hR⟩ := hYk
      gi_wp2
      refine hR.mono ?_
      rintro e' W3 (⟨rfl, hJ3⟩ | ⟨rfl, hJx3⟩)
      · gi_wp2
        try simp only [w5]
        go_roundw
        case rel => exact ⟨k + 1, by omega, by simp, hJ3⟩
        case measure => simp [intOf]; omega
      · gi_wp2
        refine bodyPost_ret (results_none rfl _ _ _) rfl ?_
        exact ⟨⟨_, rfl⟩, .inr hJx3⟩
    · obtain rfl : k = len := by omega
      gi_wp2
      go_end0
      exact ⟨⟨_, rfl⟩, .inl hJs⟩

set_option maxRecDepth 100000 in
set_option maxHeartbeats 2000000 in
theorem back0 (l Bb Bo cap : Nat) (ad : Option Addr) (W : World) (J : Nat → World → Prop) (Jx : World → Prop) (hB : W.cell? ⟨Bb, Bo, none⟩ = some (.slice ad 0 cap)) (h0 : J 0 W) :
    CallsIn Fence.wide 1 Tryz.prog 100 #[.func (.yield l) #[] #[], .pointer (some ⟨Bb, Bo, none⟩)] W fun e W' => (∃ v, e = .returned v) ∧ (J 0 W' ∨ Jx W') := by
  refine callsIn_of_wp Tryz.func100 rfl trivial ?_ rfl
  simp only [Tryz.ntmps100, List.size_toArray, List.length_cons, List.length_nil, Nat.reduceAdd, Nat.reduceSub, Array.replicate_succ, Array.replicate_zero, List.push_toArray, List.append_toArray, List.nil_append, List.cons_append]
  gi_wp2
  gi_loopw [6] (fun i wr => i = .int .i64 0 ∧ wr = W) (fun _ _ => 0)
  case atStart => exact ⟨rfl, rfl⟩
  case round =>
    obtain ⟨rfl, rfl⟩ := hrel
    gi_wp2
    go_end0
    exact ⟨⟨_, rfl⟩, .inl h0⟩

theorem rd_slint {w : World} {F : Nat → Prop} {v : Value} {l : List Int} (h : RD w F v (.sl 1 e_i64 l)) : ∃ ad cc, v = .slice ad l.length cc ∧ l.length ≤ cc ∧ l.length ≤ LIM ∧ (l = [] ∨ ∃ b off, ad = some ⟨b, off, none⟩ ∧ ¬ F b ∧ b < w.heap.size ∧ ∀ i, i < l.length → w.cell? ⟨b, off + i, none⟩ = some (.int .i64 (l.getD i 0)) ∧ IntKind.i64.has (l.getD i 0)) := by
  generalize hx : V.sl 1 e_i64 l = x at h
  cases h with
  | nilsl x sz hx' =>
    subst hx
    simp only [V.elems, Option.some.injEq, Prod.mk.injEq, List.map_eq_nil_iff] at hx'
    obtain ⟨_, rfl⟩ := hx'
    exact ⟨none, 0, rfl, Nat.le_refl _, by simp [LIM], .inl rfl⟩
  | slice x sz es hx' hnn a c hc hl hs hF hb hsz cv hone hcv hr =>
    subst hx
    simp only [V.elems, Option.some.injEq, Prod.mk.injEq] at hx'
    obtain ⟨rfl, rfl⟩ := hx'
    simp only [List.length_map] at *
    refine ⟨some a, c, rfl, hc, hl, ?_⟩
    by_cases hn : l = []
    · exact .inl hn
    have hn' : l.map e_i64 ≠ [] := by simpa using hn
    obtain ⟨b, off, sp⟩ := a
    have hsp := hs hn'
    simp only at hsp
    subst hsp
    refine .inr ⟨b, off, rfl, hF hn', hb hn', fun i hi => ?_⟩
    have h1 : (l.map e_i64)[i]? = some (e_i64 (l.getD i 0)) := by rw [List.getElem?_map, List.getD_eq_getElem?_getD, List.getElem?_eq_getElem hi]; rfl
    have h2 := hcv i _ h1 0 (e_i64 (l.getD i 0)) rfl
    obtain ⟨h3, h4⟩ := rd_int (hr i _ h1 0 (e_i64 (l.getD i 0)) rfl)
    rw [h3, Nat.mul_one, Nat.add_zero] at h2
    exact ⟨h2, h4⟩
  | _ => cases hx

theorem it_back {l : List Int} {r : List (Int × Int)} (h : backF l = some r) : SeqA Tryz.prog 100 [.rptr [.sl 1 e_i64 l]] (r.map fun p => [e_i64 p.1, e_i64 p.2]) := by
  cases h
  refine ⟨enters_of Tryz.func100 (by kernel_rfl) rfl, fun w F lb hsz hlb lp J Jx st1 st2 hdat hY h0 => ?_⟩
  obtain ⟨v0, hv0⟩ : ∃ v0, lb[0]? = some v0 := ⟨_, Array.getElem?_eq_getElem (by rw [hsz]; simp)⟩
  have hlbe : lb = #[v0] := by
    apply Array.ext
    · exact hsz
    · intro i h1 h2
      have h2 : i < 1 := h2
      have := Array.getElem?_eq_getElem h1
      match i, h2 with
      | 0, _ => rw [this] at hv0; simpa using hv0
  obtain ⟨B0, o0, u0, rfl, f0, l0, c0, r0⟩ := rd_cell (hlb 0 _ _ hv0 rfl)
  obtain ⟨ad, cc, rfl, hcc, hlim, hel⟩ := rd_slint r0
  rw [hlbe]
  have hlen : ((backN l).map fun p => [e_i64 p.1, e_i64 p.2]).length = l.length := by simp [backN]
  rw [hlen]
  have hbig : l.length ≤ 9223372036854775807 := Nat.le_trans hlim (by decide)
  rcases hel with rfl | ⟨b, off, rfl, fb, bw, hel⟩
  · exact callsIn_wide.1 (back0 lp B0 o0 cc ad w J Jx c0 h0)
  · refine callsIn_wide.1 (back1 lp B0 o0 b off l.length cc (fun i => l.getD i 0) hbig hcc w J Jx (fun k W hJ => ⟨cell_of_heap ((hdat k W hJ).2 B0 l0 f0) c0, fun i hi => cell_of_heap ((hdat k W hJ).2 b bw fb) (hel i hi).1⟩) h0 fun k W hk hJ => ?_)
    refine hY k [e_i64 (Int.ofNat k), e_i64 (l.getD (l.length - 1 - k) 0)] _ W ?_ hJ rfl (fun F1 hFF i v x hi hx => ?_) 0
    · rw [List.getElem?_map, backN, List.getElem?_map, List.getElem?_range hk]; rfl
    · have hin : IntKind.i64.has (Int.ofNat k) := by rw [has_iff]; simp only [Go.Vg.lo, Go.Vg.hi, Int.ofNat_eq_natCast]; omega
      match i, hi, hx with
      | 0, hi, hx =>
        cases hi; cases hx
        exact .int _ _ _ rfl hin
      | 1, hi, hx =>
        cases hi; cases hx
        exact .int _ _ _ rfl (hel _ (by omega)).2
      | i + 2, hi, _ => simp at hi
end Go.Proofs.YtpjbfealfmjddaaGreatDoor
