/- What a slice is parted into, handed over one after another. -/
import Derived.Test.YtnapnedfhimikaaDoorF1
import Derived.RangeFuncBox
import Derived.RangeFuncLeaves
import Derived.Shelf.Abstract
import Derived.WalkKit
import Derived.OwnWalkIn
import Derived.TacticsInMore
import Derived.LoopNIn
import Derived.LoopIn
import Derived.BigRegionIn
import Derived.Test.YtnapnedfhimikaaDoorProg
set_option maxRecDepth 4000
set_option linter.all false
set_option linter.unusedVariables false
set_option linter.unusedSimpArgs false
namespace Go.Proofs.YtnapnedfhimikaaDoor
open Go Go.Vg Go.RowKit Go.Shelf

set_option maxRecDepth 100000 in
set_option maxHeartbeats 2000000 in
theorem chunk1 (l Bs Bo Ns No b off len cap n m : Nat) (hn : 1 ≤ n) (hn2 : n ≤ 140737488355328) (hlen : len ≤ 140737488355328) (hcap : len ≤ cap) (hm : ∀ k, k < m ↔ k * n < len) (W : World) (J : Nat → World → Prop) (Jx : World → Prop)
    (hB : ∀ k W, J k W → W.cell? ⟨Bs, Bo, none⟩ = some (.slice (some ⟨b, off, none⟩) len cap) ∧ W.cell? ⟨Ns, No, none⟩ = some (.int .i64 n)) (h0 : J 0 W)
    (hst : ∀ k W, J k W → J k W.drew)
    (hY : ∀ k W, k < m → J k W → YieldAt Fence.wide 0 Tryd.prog l #[.slice (some ⟨b, off + k * n, none⟩) (min n (len - k * n)) (min n (len - k * n))] W fun e W' => (e = .returned (.bool true) ∧ J (k + 1) W') ∨ (e = .returned (.bool false) ∧ Jx W')) :
    CallsIn Fence.wide 1 Tryd.prog 27 #[.func (.yield l) #[] #[], .pointer (some ⟨Bs, Bo, none⟩), .pointer (some ⟨Ns, No, none⟩)] W fun e W' => (∃ v, e = .returned v) ∧ (J m W' ∨ Jx W') := by
  refine callsIn_of_wp Tryd.func27 rfl trivial ?_ rfl
  simp only [Tryd.ntmps27, List.size_toArray, List.length_cons, List.length_nil, Nat.reduceAdd, Nat.reduceSub, Array.replicate_succ, Array.replicate_zero, List.push_toArray, List.append_toArray, List.nil_append, List.cons_append]
  gi_wp2
  gi_loopw [4] (fun i wr => ∃ k : Nat, k ≤ m ∧ i = .int .i64 ((k * n : Nat) : Int) ∧ J k wr)
    (fun i _ => len + n - (intOf i).toNat)
  case atStart => exact ⟨0, Nat.zero_le _, by simp, h0⟩
  case round =>
    obtain ⟨k, hk, rfl, hJs⟩ := hrel
    obtain ⟨c1, c2⟩ := hB k wr hJs
    by_cases hlt : k * n < len
    · have hkm : k < m := (hm k).2 hlt
      obtain ⟨fn, tmps, assign, body, hy, hR⟩ := hY k wr.drew hkm (hst k wr hJs)
      obtain ⟨d1, d2⟩ := hB k wr.drew (hst k wr hJs)
      have hmin : (min (n : Int) ((len - k * n : Nat) : Int)) = ((min n (len - k * n) : Nat) : Int) := by omega
      have he1 : 0 < min n (len - k * n) := by omega
      have he2 : k * n + min n (len - k * n) ≤ len := by omega
      generalize min n (len - k * n) = e at hy hmin he1 he2
      gi_wp2
      gi_region
      gi_wp2
      refine hR.mono ?_
      rintro e' W3 (⟨rfl, hJ3⟩ | ⟨rfl, hJx3⟩)
      · obtain ⟨g1, g2⟩ := hB (k + 1) W3 hJ3
        gi_wp2
        go_roundw
        case rel => exact ⟨k + 1, by omega, by rw [Nat.succ_mul]; simp, hJ3⟩
        case measure => simp [intOf]; omega
      · gi_wp2
        refine bodyPost_ret (results_none rfl _ _ _) rfl ?_
        exact ⟨⟨_, rfl⟩, .inr hJx3⟩
    · obtain rfl : k = m := by
        have := hm k; omega
      gi_wp2
      go_end0
      exact ⟨⟨_, rfl⟩, .inl hJs⟩
end Go.Proofs.YtnapnedfhimikaaDoor
