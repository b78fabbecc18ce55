/- An empty slice that has room. -/
import Derived.Test.YtpdklmagncfhaaaDoorA8
import Derived.Lib.AppendZeros
import Derived.RangeFuncBox
import Derived.Shelf.Abstract
import Derived.WalkKit
import Derived.OwnWalkIn
import Derived.TacticsInMore
import Derived.BigRegionIn
import Derived.Test.YtpdklmagncfhaaaDoorProg
set_option maxRecDepth 4000
set_option linter.all false
set_option linter.unusedVariables false
set_option linter.unusedSimpArgs false
namespace Go.Proofs.YtpdklmagncfhaaaDoor
open Go Go.Vg Go.RowKit Go.Shelf

noncomputable def ug : TypeInfo := ((Tryd.prog.info? 5).getD default)
theorem i5 : Tryd.prog.info? 5 = some ug := by kernel_rfl
theorem z5 : ug.zero = some (.int .u8 0) := by kernel_rfl
theorem s5 : ug.size = 1 := by kernel_rfl
theorem b5 : ug.bytes = 1 := by kernel_rfl

set_option maxRecDepth 100000 in
set_option maxHeartbeats 2000000 in
theorem grow1 (n : Nat) (hn : 0 < n) (hn2 : n ≤ 140737488355328) (w : World) :
    CallsIn Fence.wide 1 Tryd.prog 69 #[.slice none 0 0, .int .i64 n] w fun e w' => e = .returned (.slice (some ⟨w.heap.size, 0, none⟩) 0 (grownCap w n 0 5)) ∧ w' = w.drew.alloc (.cells (Builtin.zeroCells (Value.int .u8 0).cells n ++ Builtin.zeroCells (Value.int .u8 0).cells (grownCap w n 0 5 - n)) 5) := by
  have happ := Go.Lib.run_append_nil_zeros (P := Tryd.prog) w 27 3 27 5 ug (.int .u8 0) .i64 .i64 Tryd.underlying27 Tryd.underlying3 i5 z5 n hn (by rw [s5]; decide) (by omega) (by rw [b5]; omega)
  refine callsIn_of_wp Tryd.func69 rfl trivial ?_ rfl
  simp only [Tryd.ntmps69, List.size_toArray, List.length_cons, List.length_nil, Nat.reduceAdd, Nat.reduceSub, Array.replicate_succ, Array.replicate_zero, List.push_toArray, List.append_toArray, List.nil_append, List.cons_append]
  have hb : Tryd.t5.bytes = 1 := by kernel_rfl
  gi_wp2
  all_goals try (exfalso; simp only [hb, nextslicecap_zero hn] at *; omega)
  refine bodyPost_ret (results_tmp rfl _ _ _) rfl ⟨rfl, ?_⟩
  rfl

set_option maxRecDepth 100000 in
set_option maxHeartbeats 2000000 in
theorem grow0 (w : World) : CallsIn Fence.wide 1 Tryd.prog 69 #[.slice none 0 0, .int .i64 0] w fun e w' => e = .returned (.slice none 0 0) ∧ w' = w := by
  refine callsIn_of_wp Tryd.func69 rfl trivial ?_ rfl
  simp only [Tryd.ntmps69, List.size_toArray, List.length_cons, List.length_nil, Nat.reduceAdd, Nat.reduceSub, Array.replicate_succ, Array.replicate_zero, List.push_toArray, List.append_toArray, List.nil_append, List.cons_append]
  gi_wp2
  exact bodyPost_ret (results_tmp rfl _ _ _) rfl ⟨rfl, rfl⟩

theorem g_grow {G : Glb} {n : Int} {r : List Int} (h : growF n = some r) : ACalls Tryd.prog G 69 [.nilsl, e_i64 n] [] (fun x o' => x = .osl 20000 ∧ o' = [(20000, .arr false 5 1 e_u8 r)]) := by
  unfold growF at h
  split at h
  case isFalse => cases h
  rename_i hc
  cases h
  obtain ⟨n, rfl⟩ := Int.eq_ofNat_of_zero_le hc.1
  refine ⟨⟨_, Tryd.func69, rfl, rfl⟩, fun w F β vs hs hvs hown hglob hF hdom => ?_⟩
  have hs2 : vs.size = 2 := by simpa using hs
  have g0 : vs[0]? = some (vs[0]'(by omega)) := Array.getElem?_eq_getElem (by omega)
  have g1 : vs[1]? = some (vs[1]'(by omega)) := Array.getElem?_eq_getElem (by omega)
  have r0 := hvs 0 _ _ g0 rfl
  have r1 := hvs 1 _ _ g1 rfl
  have e1 : vs[1]'(by omega) = .int .i64 n := (RA.of_int r1).1
  have e0 : vs[0]'(by omega) = .slice none 0 0 := by
    have hd := RA.of_elems r0 (rfl : V.nilsl.elems = some (0, []))
    generalize hq : V.nilsl = q at hd
    generalize vs[0]'(by omega) = val at hd ⊢
    cases hd with
    | nilsl => rfl
    | slice x sz es hx hnn => exact absurd hq.symm hnn
    | _ => cases hq
  have hve : vs = #[.slice none 0 0, .int .i64 n] := by
    apply Array.ext
    · simpa using hs2
    · intro i h1 h2
      simp at h2
      match i, h2 with
      | 0, _ => simpa using e0
      | 1, _ => simpa using e1
  rw [hve]
  have hol : olook [(20000, Ent.arr false 5 1 e_u8 ([] : List Int))] 20000 = some (.arr false 5 1 e_u8 []) := rfl
  have hon : ∀ id ent, olook [(20000, Ent.arr false 5 1 e_u8 ([] : List Int))] id = some ent → id = 20000 ∧ ent = .arr false 5 1 e_u8 [] := fun id ent h => by
    simp only [olook] at h
    cases hb : eqN 20000 id with
    | true => rw [hb] at h; simp only [cond_true, Option.some.injEq] at h; exact ⟨(eqN_true hb).symm, h.symm⟩
    | false => rw [hb] at h; cases h
  by_cases hn : n = 0
  · subst hn
    refine (callsIn_wide.1 (grow0 w)).mono ?_
    rintro en w' ⟨rfl, rfl⟩
    refine ⟨_, _, _, F, fun _ => none, rfl, ⟨rfl, rfl⟩, fun _ h => h, fun _ _ h => h, hF, .osl0 20000 false 5 1 e_u8 hol, ⟨fun id ent h => ?_, fun id id' b ent ent' _ _ h _ => by cases h⟩, fun _ _ => rfl, Keep.refl _ _, fun id ent b _ h => by (cases h), fun id e0 en h => by simp [olook] at h⟩
    obtain ⟨rfl, rfl⟩ := hon id ent h
    exact .inl ⟨rfl, rfl⟩
  · have hge := grownCap_ge w n 0 5
    have hsz : ∀ k, (Builtin.zeroCells (Value.int .u8 0).cells k).size = k := fun k => by simp [Builtin.zeroCells, Value.cells]
    have hone : ∀ k, ∀ v, v ∈ Builtin.zeroCells (Value.int .u8 0).cells k → v.oneCell' = true := fun k => zeroCells_one (by simp [Value.cells, Value.oneCell']) k
    refine (callsIn_wide.1 (grow1 n (by omega) (by omega) w)).mono ?_
    rintro en w' ⟨rfl, rfl⟩
    have hnew : (w.drew.alloc (.cells (Builtin.zeroCells (Value.int .u8 0).cells n ++ Builtin.zeroCells (Value.int .u8 0).cells (grownCap w n 0 5 - n)) 5)).heap[w.heap.size]? = some (.cells (Builtin.zeroCells (Value.int .u8 0).cells n ++ Builtin.zeroCells (Value.int .u8 0).cells (grownCap w n 0 5 - n)) 5 (0, 0)) := World.alloc_heap_new w.drew _
    refine ⟨_, _, _, fun b => F b ∨ b = w.heap.size, fun id => if id = 20000 then some w.heap.size else none, rfl, ⟨rfl, rfl⟩, fun _ h => .inl h, fun b hb h => h.elim id fun h => by omega, fun b h => ?_, ?_, ⟨fun id ent h => ?_, fun id id' b ent ent' h1 h2 _ _ => ?_⟩, fun id h => ?_, ?_, fun id ent b _ h => ?_, fun id e0 en h => by simp [olook] at h⟩
    · simp only [World.size_alloc]
      rcases h with h | h
      · have := hF b h; show b < w.heap.size + 1; omega
      · show b < w.heap.size + 1; omega
    · exact .osl 20000 w.heap.size rfl false 5 1 e_u8 [] (grownCap w n 0 5) hol (Nat.zero_le _) (grownCap_le_maxLen w _ _ 5 (by simp only [maxLen]; omega)) (Nat.zero_le _) _ hnew (by rw [Array.size_append, hsz, hsz]; omega)
    · obtain ⟨rfl, rfl⟩ := hon id ent h
      refine .inr ⟨w.heap.size, _, rfl, .inr rfl, hnew, by simp, fun v hv => ?_, fun i p hp => by simp at hp⟩
      rcases Array.mem_append.1 hv with h | h
      · exact hone _ v h
      · exact hone _ v h
    · exact (hon id ent h1).1.trans (hon id' ent' h2).1.symm
    · have : id ≠ 20000 := fun e => by subst e; cases h
      simp [this]
    · exact ⟨rfl, rfl, ⟨rfl, .inr (Nat.le_succ _)⟩, by simp [World.size_alloc], fun b hb _ => Below.heap_alloc w.drew _ b hb⟩
    · simp only at h
      by_cases e : id = 20000
      · rw [if_pos e] at h; cases h; exact .inl (Nat.le_refl _)
      · rw [if_neg e] at h; cases h
end Go.Proofs.YtpdklmagncfhaaaDoor
