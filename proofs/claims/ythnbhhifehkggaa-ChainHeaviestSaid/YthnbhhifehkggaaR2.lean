/- The rows: each statement out of its walk and its plain law. No condition. -/
import Derived.Test.YthnbhhifehkggaaV1
import Derived.Test.YthnbhhifehkggaaQ8
import Derived.Test.YthnbhhifehkggaaA7
import Derived.Test.YthnbhhifehkggaaRows
import Derived.ProofKit
set_option maxRecDepth 4000
set_option linter.all false
set_option linter.unusedVariables false
set_option linter.unusedSimpArgs false
namespace Go.Proofs.Ythnbhhifehkggaa
open Go Go.Vg Go.ChangeShapes Go.WideShapes Go.ChangeAt Go.RowKit

theorem Try.own : ownKnob Try.prog.godebug = none := by kernel_rfl
theorem Try.laidOut : laidOutB Try.prog = true := by kernel_rfl
theorem glb0 (W : World) : GlbOk [] W (fun _ => False) := ⟨fun g cs h => by simp [glook] at h⟩
theorem sl_le {s : Sh} {α : Type} {f : α → V} {m : s.T → α} (h : ∀ p, s.val p = f (m p)) (l : List s.T) : LeP [] ((Sh.sl s).val l) (.sl s.sz f (l.map m)) :=
  .sl' _ _ (l.map s.val) rfl _ _ (by simp) fun i e p h1 h2 => by
    rw [List.getElem?_map] at h1 h2
    cases hl : l[i]? with
    | none => rw [hl] at h1; cases h1
    | some q => rw [hl] at h1 h2; cases h1; cases h2; rw [h q]; exact VEq.refl _

set_option maxRecDepth 100000 in
theorem chainHeaviest_lifted (os : Os) (started : os.Started) (H : Type) (enc : TypeId × Value → H) :
    ReturnsInHanded {} Try.checked os 3 .any (Rows.chainHeaviestSpec.pre6 enc Try.prog Try.f3 Rows.chainHeaviestRow.domain false) (Rows.chainHeaviestSpec.post enc Try.prog Try.f3 false true false false) := by
  refine returnsInHanded_of_change (C := Try.checked) Try.own started (by kernel_rfl) Try.func3
    (ChangeSpec.witness6 (enc := enc) (C := Try.checked) false ⟨#[], #[.agg #[.int .i64 0, .int .i64 0, .int .i64 0, .bool false, .int .i64 0], .slice none 0 0], []⟩ 8 (by kernel_rfl) (by kernel_rfl) (by kernel_rfl) (by kernel_rfl)) ?_
  intro W base args ds gs before hval0 hW _ _
  have hval : ∀ (j : Nat) t v, Try.f3.params[j]? = some t → args[j]? = some v → Value.okWide Try.prog W .any base t v := hval0
  have hW' := hW
  obtain ⟨p, q, hA0, hV, rfl, _, _⟩ := hW
  have hA : DataW.TrodAll enc Try.prog W 0 (fun _ => true) true Try.f3.params.toList args.toList ds p := hA0
  rw [Try.params3] at hA hval
  obtain ⟨v0, v1, d0, d1, p0, p1, rfl, rfl, rfl, h0, h1⟩ := trodAll_two hA
  obtain ⟨rfl, rfl⟩ := trodVars_none hV
  clear hA0 hval0
  simp only [List.append_nil] at hW'
  have hlt : ∀ x ∈ (p0 ++ p1), x.block < W.heap.size := fun x hx => hW'.lt x (by simpa using hx)
  obtain ⟨x0, e0⟩ := open_val (n := 30) (s := shGuess) (by kernel_rfl) (hval 0 25 v0 rfl rfl) h0
  obtain ⟨x1, e1⟩ := open_val (n := 30) (s := .sl shCand) (by kernel_rfl) (hval 1 26 v1 rfl rfl) h1
  have law : AVal Try.prog [] 3 [Sh.val (shGuess) x0, Sh.val (.sl shCand) x1] (e_bool true) := AVal.le (v_jetsamlaw15_ChainHeaviest (heaviest_law (mkGuess x0) (x1.map mkCand))) (.cons _ _ _ _ (.same _) (.cons _ _ _ _ (sl_le (f := e_chain_Cand) (m := mkCand) (fun _ => rfl) x1) .nil))
  refine (law.calls rfl (glb0 W) (vs := #[v0, v1]) rfl (fun i v x h1 h2 => ?_)).mono fun e W' he => ?_
  · match i, h1, h2 with
    | 0, h1, h2 => cases h1; cases h2; exact e0
    | 1, h1, h2 => cases h1; cases h2; exact e1
    | i + 2, h1, h2 => simp at h1
  obtain ⟨v, F', rfl, bel, hv, _⟩ := he
  have hv := RA.of_bool (RA.d (β := fun _ => none) (o := []) _ _ hv)
  subst hv
  exact ⟨_, rfl, _, _, _, [], _, [], hW', trodAll_mk1 (shut_bool Try.underlying4 _), by exact trodAll_mk2 (Below.trod Try.laidOut (by kernel_rfl) (of_decide_eq_true (by kernel_rfl)) h0 bel (fun x hx => hlt x (by simp [hx]))) (Below.trod Try.laidOut (by kernel_rfl) (of_decide_eq_true (by kernel_rfl)) h1 bel (fun x hx => hlt x (by simp [hx]))), rfl, bel.frame _, fun h => by cases h⟩

theorem chainHeaviest_holds : Rows.ChainHeaviestSaid :=
  OpenClaim.holds_of_wide 3 Try.f3 rfl rfl rfl rfl rfl rfl rfl ⟨rfl, rfl, rfl, rfl, rfl⟩ rfl rfl rfl rfl rfl (by kernel_rfl) Try.func3 (by kernel_rfl)
    (of_decide_eq_true (by kernel_rfl)) (by unfold Func.isWrapper; first | (rw [if_pos (by decide +kernel)]; kernel_rfl) | (rw [if_neg (by decide +kernel)]; exact ⟨rfl, rfl⟩))
    (fun os started H enc _ => chainHeaviest_lifted os started H enc)
#print axioms chainHeaviest_holds

set_option maxRecDepth 100000 in
theorem chainBest_lifted (os : Os) (started : os.Started) (H : Type) (enc : TypeId × Value → H) :
    ReturnsInHanded {} Try.checked os 4 .any (Rows.chainBestSpec.pre6 enc Try.prog Try.f4 Rows.chainBestRow.domain false) (Rows.chainBestSpec.post enc Try.prog Try.f4 false true false false) := by
  refine returnsInHanded_of_change (C := Try.checked) Try.own started (by kernel_rfl) Try.func4
    (ChangeSpec.witness6 (enc := enc) (C := Try.checked) false ⟨#[], #[.slice none 0 0], []⟩ 8 (by kernel_rfl) (by kernel_rfl) (by kernel_rfl) (by kernel_rfl)) ?_
  intro W base args ds gs before hval0 hW _ _
  have hval : ∀ (j : Nat) t v, Try.f4.params[j]? = some t → args[j]? = some v → Value.okWide Try.prog W .any base t v := hval0
  have hW' := hW
  obtain ⟨p, q, hA0, hV, rfl, _, _⟩ := hW
  have hA : DataW.TrodAll enc Try.prog W 0 (fun _ => true) true Try.f4.params.toList args.toList ds p := hA0
  rw [Try.params4] at hA hval
  obtain ⟨v0, d0, rfl, rfl, h0⟩ := trodAll_one hA
  obtain ⟨rfl, rfl⟩ := trodVars_none hV
  clear hA0 hval0
  simp only [List.append_nil] at hW'
  have hlt : ∀ x ∈ p, x.block < W.heap.size := fun x hx => hW'.lt x (by simpa using hx)
  obtain ⟨x0, e0⟩ := open_val (n := 30) (s := .sl shCand) (by kernel_rfl) (hval 0 26 v0 rfl rfl) h0
  have law : AVal Try.prog [] 4 [Sh.val (.sl shCand) x0] (e_bool true) := AVal.le (v_jetsamlaw15_ChainBest (best_law (x0.map mkCand))) (.cons _ _ _ _ (sl_le (f := e_chain_Cand) (m := mkCand) (fun _ => rfl) x0) .nil)
  refine (law.calls rfl (glb0 W) (vs := #[v0]) rfl (fun i v x h1 h2 => ?_)).mono fun e W' he => ?_
  · match i, h1, h2 with
    | 0, h1, h2 => cases h1; cases h2; exact e0
    | i + 1, h1, h2 => simp at h1
  obtain ⟨v, F', rfl, bel, hv, _⟩ := he
  have hv := RA.of_bool (RA.d (β := fun _ => none) (o := []) _ _ hv)
  subst hv
  exact ⟨_, rfl, _, _, _, [], _, [], hW', trodAll_mk1 (shut_bool Try.underlying4 _), trodAll_mk1 (Below.trod Try.laidOut (by kernel_rfl) (of_decide_eq_true (by kernel_rfl)) h0 bel hlt), rfl, bel.frame _, fun h => by cases h⟩

theorem chainBest_holds : Rows.ChainBestSaid :=
  OpenClaim.holds_of_wide 4 Try.f4 rfl rfl rfl rfl rfl rfl rfl ⟨rfl, rfl, rfl, rfl, rfl⟩ rfl rfl rfl rfl rfl (by kernel_rfl) Try.func4 (by kernel_rfl)
    (of_decide_eq_true (by kernel_rfl)) (by unfold Func.isWrapper; first | (rw [if_pos (by decide +kernel)]; kernel_rfl) | (rw [if_neg (by decide +kernel)]; exact ⟨rfl, rfl⟩))
    (fun os started H enc _ => chainBest_lifted os started H enc)
#print axioms chainBest_holds

end Go.Proofs.Ythnbhhifehkggaa
