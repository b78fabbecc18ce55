/- Inputs' shapes, and what they are in the plain laws. -/
import Derived.Test.YtpdklmagncfhaaaDoorXs
import Derived.Test.YtpdklmagncfhaaaDoorA8
import Derived.Test.YtpdklmagncfhaaaDoorF1
import Derived.Test.YtpdklmagncfhaaaDoorM1
set_option maxRecDepth 4000
set_option linter.all false
set_option linter.unusedVariables false
set_option linter.unusedSimpArgs false
namespace Go.Vg
open Go
theorem sl_lev {s : Sh} {α : Type} {f : α → V} {m : s.T → α} (h : ∀ p, VEq (s.val p) (f (m p))) (l : List s.T) : LeP [] ((Sh.sl s).val l) (.sl s.sz f (l.map m)) :=
  .sl' _ _ (l.map s.val) rfl _ _ (by simp) fun i e p h1 h2 => by
    rw [List.getElem?_map] at h1 h2
    cases hl : l[i]? with
    | none => rw [hl] at h1; cases h1
    | some q => rw [hl] at h1 h2; cases h1; cases h2; exact h q
abbrev shI : Sh := .pair (.int .i64) (.int .i64)
abbrev shT : Sh := .pair (.int .i64) (.pair (.int .i64) (.pair .str (.pair .bool (.pair .bool (.sl shI)))))
abbrev shCue : Sh := .pair .str (.pair (.int .i64) (.pair .bool (.sl shT)))
def mkI (x : shI.T) : tags_Index := ⟨x.1, x.2⟩
def mkT (x : shT.T) : tags_Track := ⟨x.1, x.2.1, x.2.2.1, x.2.2.2.1, x.2.2.2.2.1, List.map mkI x.2.2.2.2.2⟩
def mkCue (x : shCue.T) : tags_Cue := ⟨x.1, x.2.1, x.2.2.1, List.map mkT x.2.2.2⟩
theorem ve_T (t : shT.T) : VEq (Sh.val shT t) (e_tags_Track (mkT t)) :=
  VEq.of_lepl (.cons _ _ _ _ (.same _) (.cons _ _ _ _ (.same _) (.cons _ _ _ _ (.same _) (.cons _ _ _ _ (.same _) (.cons _ _ _ _ (.same _) (.cons _ _ _ _ (sl_lev (s := shI) (f := e_tags_Index) (m := mkI) (fun _ => VEq.refl _) t.2.2.2.2.2) .nil)))))) rfl
theorem le_cue (x : shCue.T) : LeP [] (Sh.val shCue x) (e_tags_Cue (mkCue x)) :=
  .agg _ _ (.cons _ _ _ _ (.same _) (.cons _ _ _ _ (.same _) (.cons _ _ _ _ (.same _) (.cons _ _ _ _ (sl_lev (s := shT) (f := e_tags_Track) (m := mkT) ve_T x.2.2.2) .nil))))
theorem has64 {n : Int} (h : V.wf (.int .i64 (.v n))) : n ≤ 9223372036854775807 := by
  have := (has_iff _ _).1 (show IntKind.i64.has n from h)
  simp only [lo, hi] at this
  exact this.2
theorem cueWf {x : shCue.T} (h : V.wf (Sh.val shCue x)) (z : Sh.small reachBytes shCue x) : CueWf (mkCue x) := by
  obtain ⟨cat, lead, disc, L⟩ := x
  have h : V.wf (.str (.v cat)) ∧ V.wf (.int .i64 (.v lead)) ∧ V.wf (.bool (.v disc)) ∧ V.wf (Sh.val (.sl shT) L) ∧ True := h
  have hL : List.length (α := shT.T) L ≤ LIM ∧ ∀ p, p ∈ (show List shT.T from L) → V.wf (Sh.val shT p) := h.2.2.2.1
  have zL : List.length (α := shT.T) L * shT.by ≤ reachBytes ∧ ∀ q, q ∈ (show List shT.T from L) → Sh.small reachBytes shT q := z.2.2.2
  have key : ∀ t, t ∈ (mkCue (cat, lead, disc, L)).L → ∃ q : shT.T, t = mkT q ∧ V.wf (Sh.val shT q) ∧ Sh.small reachBytes shT q := fun t ht => by
    obtain ⟨q, hq, rfl⟩ := List.mem_map.1 ht
    exact ⟨q, rfl, hL.2 q hq, zL.2 q hq⟩
  have hr : reachBytes < 140737488355328 := by decide
  refine ⟨?_, fun t ht => ?_, fun t ht => ?_, fun t ht => ?_, fun t ht x hx => ?_, has64 h.2.1⟩
  · exact Nat.le_trans (Nat.le_of_eq (List.length_map (as := (show List shT.T from L)) mkT)) hL.1
  · obtain ⟨⟨o, n, c, d, p, l⟩, rfl, _, hz⟩ := key t ht
    have hz2 : List.length (α := shI.T) l * 16 ≤ reachBytes := hz.2.2.2.2.2.1
    refine Nat.le_trans (Nat.le_of_eq (List.length_map (as := (show List shI.T from l)) mkI)) ?_
    show List.length (α := shI.T) l ≤ _
    omega
  · obtain ⟨⟨o, n, c, d, p, l⟩, rfl, _, hz⟩ := key t ht
    have hz2 : List.length (α := UInt8) c ≤ reachBytes := hz.2.2.1
    show List.length (α := UInt8) c < _
    omega
  · obtain ⟨⟨o, n, c, d, p, l⟩, rfl, hw, _⟩ := key t ht
    have hw : V.wf (.int .i64 (.v o)) ∧ _ := hw
    exact has64 hw.1
  · obtain ⟨⟨o, n, c, d, p, l⟩, rfl, hw, _⟩ := key t ht
    have hw2 : V.wf (Sh.val (.sl shI) l) := hw.2.2.2.2.2.1
    have hw3 : List.length (α := shI.T) l ≤ LIM ∧ ∀ p, p ∈ (show List shI.T from l) → V.wf (Sh.val shI p) := hw2
    obtain ⟨q, hq, rfl⟩ := List.mem_map.1 (show x ∈ List.map mkI l from hx)
    have hw4 : V.wf (.int .i64 (.v q.1)) ∧ _ := hw3.2 q hq
    exact has64 hw4.1
end Go.Vg
