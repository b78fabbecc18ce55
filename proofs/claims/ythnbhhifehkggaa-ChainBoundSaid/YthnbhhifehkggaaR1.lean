/- The rows: each statement out of its walk and its plain law. No condition. -/
import Derived.Test.YthnbhhifehkggaaV1
import Derived.Test.YthnbhhifehkggaaQ8
import Derived.Test.YthnbhhifehkggaaA7
import Derived.Test.YthnbhhifehkggaaRows
import Derived.ProofKit
set_option maxRecDepth 4000
set_option linter.all false
set_option linter.unusedVariables false
set_option linter.unusedSimpArgs false
namespace Go.Proofs.Ythnbhhifehkggaa
open Go Go.Vg Go.ChangeShapes Go.WideShapes Go.ChangeAt Go.RowKit

theorem Try.own : ownKnob Try.prog.godebug = none := by kernel_rfl
theorem Try.laidOut : laidOutB Try.prog = true := by kernel_rfl
theorem glb0 (W : World) : GlbOk [] W (fun _ => False) := ⟨fun g cs h => by simp [glook] at h⟩
theorem sl_le {s : Sh} {α : Type} {f : α → V} {m : s.T → α} (h : ∀ p, s.val p = f (m p)) (l : List s.T) : LeP [] ((Sh.sl s).val l) (.sl s.sz f (l.map m)) :=
  .sl' _ _ (l.map s.val) rfl _ _ (by simp) fun i e p h1 h2 => by
    rw [List.getElem?_map] at h1 h2
    cases hl : l[i]? with
    | none => rw [hl] at h1; cases h1
    | some q => rw [hl] at h1 h2; cases h1; cases h2; rw [h q]; exact VEq.refl _

set_option maxRecDepth 100000 in
theorem chainTurns_lifted (os : Os) (started : os.Started) (H : Type) (enc : TypeId × Value → H) :
    ReturnsInHanded {} Try.checked os 5 .any (Rows.chainTurnsSpec.pre6 enc Try.prog Try.f5 Rows.chainTurnsRow.domain false) (Rows.chainTurnsSpec.post enc Try.prog Try.f5 false true false false) := by
  refine returnsInHanded_of_change (C := Try.checked) Try.own started (by kernel_rfl) Try.func5
    (ChangeSpec.witness6 (enc := enc) (C := Try.checked) false ⟨#[], #[.slice none 0 0, .int .i64 0], []⟩ 8 (by kernel_rfl) (by kernel_rfl) (by kernel_rfl) (by kernel_rfl)) ?_
  intro W base args ds gs before hval0 hW _ _
  have hval : ∀ (j : Nat) t v, Try.f5.params[j]? = some t → args[j]? = some v → Value.okWide Try.prog W .any base t v := hval0
  have hW' := hW
  obtain ⟨p, q, hA0, hV, rfl, _, _⟩ := hW
  have hA : DataW.TrodAll enc Try.prog W 0 (fun _ => true) true Try.f5.params.toList args.toList ds p := hA0
  rw [Try.params5] at hA hval
  obtain ⟨v0, v1, d0, d1, p0, p1, rfl, rfl, rfl, h0, h1⟩ := trodAll_two hA
  obtain ⟨rfl, rfl⟩ := trodVars_none hV
  clear hA0 hval0
  simp only [List.append_nil] at hW'
  have hlt : ∀ x ∈ (p0 ++ p1), x.block < W.heap.size := fun x hx => hW'.lt x (by simpa using hx)
  obtain ⟨x0, e0⟩ := open_val (n := 30) (s := .sl shCand) (by kernel_rfl) (hval 0 26 v0 rfl rfl) h0
  obtain ⟨x1, e1⟩ := open_val (n := 30) (s := .int .i64) (by kernel_rfl) (hval 1 3 v1 rfl rfl) h1
  have law : AVal Try.prog [] 5 [Sh.val (.sl shCand) x0, Sh.val (.int .i64) x1] (e_bool true) := AVal.le (v_jetsamlaw15_ChainTurns (turns (x0.map mkCand) x1)) (.cons _ _ _ _ (sl_le (f := e_chain_Cand) (m := mkCand) (fun _ => rfl) x0) (.cons _ _ _ _ (.same _) .nil))
  refine (law.calls rfl (glb0 W) (vs := #[v0, v1]) rfl (fun i v x h1 h2 => ?_)).mono fun e W' he => ?_
  · match i, h1, h2 with
    | 0, h1, h2 => cases h1; cases h2; exact e0
    | 1, h1, h2 => cases h1; cases h2; exact e1
    | i + 2, h1, h2 => simp at h1
  obtain ⟨v, F', rfl, bel, hv, _⟩ := he
  have hv := RA.of_bool (RA.d (β := fun _ => none) (o := []) _ _ hv)
  subst hv
  exact ⟨_, rfl, _, _, _, [], _, [], hW', trodAll_mk1 (shut_bool Try.underlying4 _), by exact trodAll_mk2 (Below.trod Try.laidOut (by kernel_rfl) (of_decide_eq_true (by kernel_rfl)) h0 bel (fun x hx => hlt x (by simp [hx]))) (Below.trod Try.laidOut (by kernel_rfl) (of_decide_eq_true (by kernel_rfl)) h1 bel (fun x hx => hlt x (by simp [hx]))), rfl, bel.frame _, fun h => by cases h⟩

theorem chainTurns_holds : Rows.ChainTurnsSaid :=
  OpenClaim.holds_of_wide 5 Try.f5 rfl rfl rfl rfl rfl rfl rfl ⟨rfl, rfl, rfl, rfl, rfl⟩ rfl rfl rfl rfl rfl (by kernel_rfl) Try.func5 (by kernel_rfl)
    (of_decide_eq_true (by kernel_rfl)) (by unfold Func.isWrapper; first | (rw [if_pos (by decide +kernel)]; kernel_rfl) | (rw [if_neg (by decide +kernel)]; exact ⟨rfl, rfl⟩))
    (fun os started H enc _ => chainTurns_lifted os started H enc)
#print axioms chainTurns_holds

set_option maxRecDepth 100000 in
theorem chainMore_lifted (os : Os) (started : os.Started) (H : Type) (enc : TypeId × Value → H) :
    ReturnsInHanded {} Try.checked os 6 .any (Rows.chainMoreSpec.pre6 enc Try.prog Try.f6 Rows.chainMoreRow.domain false) (Rows.chainMoreSpec.post enc Try.prog Try.f6 false true false false) := by
  refine returnsInHanded_of_change (C := Try.checked) Try.own started (by kernel_rfl) Try.func6
    (ChangeSpec.witness6 (enc := enc) (C := Try.checked) false ⟨#[], #[.slice none 0 0, .slice none 0 0], []⟩ 8 (by kernel_rfl) (by kernel_rfl) (by kernel_rfl) (by kernel_rfl)) ?_
  intro W base args ds gs before hval0 hW _ _
  have hval : ∀ (j : Nat) t v, Try.f6.params[j]? = some t → args[j]? = some v → Value.okWide Try.prog W .any base t v := hval0
  have hW' := hW
  obtain ⟨p, q, hA0, hV, rfl, _, _⟩ := hW
  have hA : DataW.TrodAll enc Try.prog W 0 (fun _ => true) true Try.f6.params.toList args.toList ds p := hA0
  rw [Try.params6] at hA hval
  obtain ⟨v0, v1, d0, d1, p0, p1, rfl, rfl, rfl, h0, h1⟩ := trodAll_two hA
  obtain ⟨rfl, rfl⟩ := trodVars_none hV
  clear hA0 hval0
  simp only [List.append_nil] at hW'
  have hlt : ∀ x ∈ (p0 ++ p1), x.block < W.heap.size := fun x hx => hW'.lt x (by simpa using hx)
  obtain ⟨x0, e0⟩ := open_val (n := 30) (s := .sl shCand) (by kernel_rfl) (hval 0 26 v0 rfl rfl) h0
  obtain ⟨x1, e1⟩ := open_val (n := 30) (s := .sl shCand) (by kernel_rfl) (hval 1 26 v1 rfl rfl) h1
  have law : AVal Try.prog [] 6 [Sh.val (.sl shCand) x0, Sh.val (.sl shCand) x1] (e_bool true) := AVal.le (v_jetsamlaw15_ChainMore (more (x0.map mkCand) (x1.map mkCand))) (.cons _ _ _ _ (sl_le (f := e_chain_Cand) (m := mkCand) (fun _ => rfl) x0) (.cons _ _ _ _ (sl_le (f := e_chain_Cand) (m := mkCand) (fun _ => rfl) x1) .nil))
  refine (law.calls rfl (glb0 W) (vs := #[v0, v1]) rfl (fun i v x h1 h2 => ?_)).mono fun e W' he => ?_
  · match i, h1, h2 with
    | 0, h1, h2 => cases h1; cases h2; exact e0
    | 1, h1, h2 => cases h1; cases h2; exact e1
    | i + 2, h1, h2 => simp at h1
  obtain ⟨v, F', rfl, bel, hv, _⟩ := he
  have hv := RA.of_bool (RA.d (β := fun _ => none) (o := []) _ _ hv)
  subst hv
  exact ⟨_, rfl, _, _, _, [], _, [], hW', trodAll_mk1 (shut_bool Try.underlying4 _), by exact trodAll_mk2 (Below.trod Try.laidOut (by kernel_rfl) (of_decide_eq_true (by kernel_rfl)) h0 bel (fun x hx => hlt x (by simp [hx]))) (Below.trod Try.laidOut (by kernel_rfl) (of_decide_eq_true (by kernel_rfl)) h1 bel (fun x hx => hlt x (by simp [hx]))), rfl, bel.frame _, fun h => by cases h⟩

theorem chainMore_holds : Rows.ChainMoreSaid :=
  OpenClaim.holds_of_wide 6 Try.f6 rfl rfl rfl rfl rfl rfl rfl ⟨rfl, rfl, rfl, rfl, rfl⟩ rfl rfl rfl rfl rfl (by kernel_rfl) Try.func6 (by kernel_rfl)
    (of_decide_eq_true (by kernel_rfl)) (by unfold Func.isWrapper; first | (rw [if_pos (by decide +kernel)]; kernel_rfl) | (rw [if_neg (by decide +kernel)]; exact ⟨rfl, rfl⟩))
    (fun os started H enc _ => chainMore_lifted os started H enc)
#print axioms chainMore_holds

set_option maxRecDepth 100000 in
theorem chainBound_lifted (os : Os) (started : os.Started) (H : Type) (enc : TypeId × Value → H) :
    ReturnsInHanded {} Try.checked os 7 .any (Rows.chainBoundSpec.pre6 enc Try.prog Try.f7 Rows.chainBoundRow.domain false) (Rows.chainBoundSpec.post enc Try.prog Try.f7 false true false false) := by
  refine returnsInHanded_of_change (C := Try.checked) Try.own started (by kernel_rfl) Try.func7
    (ChangeSpec.witness6 (enc := enc) (C := Try.checked) false ⟨#[], #[.slice none 0 0, .agg #[.int .i64 0, .int .i64 0, .int .i64 0, .bool false, .int .i64 0], .slice none 0 0], []⟩ 8 (by kernel_rfl) (by kernel_rfl) (by kernel_rfl) (by kernel_rfl)) ?_
  intro W base args ds gs before hval0 hW _ _
  have hval : ∀ (j : Nat) t v, Try.f7.params[j]? = some t → args[j]? = some v → Value.okWide Try.prog W .any base t v := hval0
  have hW' := hW
  obtain ⟨p, q, hA0, hV, rfl, _, _⟩ := hW
  have hA : DataW.TrodAll enc Try.prog W 0 (fun _ => true) true Try.f7.params.toList args.toList ds p := hA0
  rw [Try.params7] at hA hval
  obtain ⟨v0, v1, v2, d0, d1, d2, p0, p1, p2, rfl, rfl, rfl, h0, h1, h2⟩ := trodAll_three hA
  obtain ⟨rfl, rfl⟩ := trodVars_none hV
  clear hA0 hval0
  simp only [List.append_nil] at hW'
  have hlt : ∀ x ∈ (p0 ++ p1 ++ p2), x.block < W.heap.size := fun x hx => hW'.lt x (by simpa using hx)
  obtain ⟨x0, e0⟩ := open_val (n := 30) (s := .sl shCand) (by kernel_rfl) (hval 0 26 v0 rfl rfl) h0
  obtain ⟨x1, e1⟩ := open_val (n := 30) (s := shGuess) (by kernel_rfl) (hval 1 25 v1 rfl rfl) h1
  obtain ⟨x2, e2⟩ := open_val (n := 30) (s := .sl shCand) (by kernel_rfl) (hval 2 26 v2 rfl rfl) h2
  have law : AVal Try.prog [] 7 [Sh.val (.sl shCand) x0, Sh.val (shGuess) x1, Sh.val (.sl shCand) x2] (e_bool true) := AVal.le (v_jetsamlaw15_ChainBound (bound (x0.map mkCand) (mkGuess x1) (x2.map mkCand))) (.cons _ _ _ _ (sl_le (f := e_chain_Cand) (m := mkCand) (fun _ => rfl) x0) (.cons _ _ _ _ (.same _) (.cons _ _ _ _ (sl_le (f := e_chain_Cand) (m := mkCand) (fun _ => rfl) x2) .nil)))
  refine (law.calls rfl (glb0 W) (vs := #[v0, v1, v2]) rfl (fun i v x h1 h2 => ?_)).mono fun e W' he => ?_
  · match i, h1, h2 with
    | 0, h1, h2 => cases h1; cases h2; exact e0
    | 1, h1, h2 => cases h1; cases h2; exact e1
    | 2, h1, h2 => cases h1; cases h2; exact e2
    | i + 3, h1, h2 => simp at h1
  obtain ⟨v, F', rfl, bel, hv, _⟩ := he
  have hv := RA.of_bool (RA.d (β := fun _ => none) (o := []) _ _ hv)
  subst hv
  exact ⟨_, rfl, _, _, _, [], _, [], hW', trodAll_mk1 (shut_bool Try.underlying4 _), by exact trodAll_mk3 (Below.trod Try.laidOut (by kernel_rfl) (of_decide_eq_true (by kernel_rfl)) h0 bel (fun x hx => hlt x (by simp [hx]))) (Below.trod Try.laidOut (by kernel_rfl) (of_decide_eq_true (by kernel_rfl)) h1 bel (fun x hx => hlt x (by simp [hx]))) (Below.trod Try.laidOut (by kernel_rfl) (of_decide_eq_true (by kernel_rfl)) h2 bel (fun x hx => hlt x (by simp [hx]))), rfl, bel.frame _, fun h => by cases h⟩

theorem chainBound_holds : Rows.ChainBoundSaid :=
  OpenClaim.holds_of_wide 7 Try.f7 rfl rfl rfl rfl rfl rfl rfl ⟨rfl, rfl, rfl, rfl, rfl⟩ rfl rfl rfl rfl rfl (by kernel_rfl) Try.func7 (by kernel_rfl)
    (of_decide_eq_true (by kernel_rfl)) (by unfold Func.isWrapper; first | (rw [if_pos (by decide +kernel)]; kernel_rfl) | (rw [if_neg (by decide +kernel)]; exact ⟨rfl, rfl⟩))
    (fun os started H enc _ => chainBound_lifted os started H enc)
#print axioms chainBound_holds

end Go.Proofs.Ythnbhhifehkggaa
