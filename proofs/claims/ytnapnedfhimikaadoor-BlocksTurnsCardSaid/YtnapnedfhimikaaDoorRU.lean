/- The rows, and the cards: each statement out of its walk and its plain law. No condition. -/
import Derived.Test.YtnapnedfhimikaaDoorV1
import Derived.Test.YtnapnedfhimikaaDoorM1
import Derived.Test.YtnapnedfhimikaaDoorQ8
import Derived.Test.YtnapnedfhimikaaDoorVgX
import Derived.Test.YtnapnedfhimikaaDoorRows
import Derived.Test.YtnapnedfhimikaaDoorCards
import Derived.Test.YtnapnedfhimikaaDoorTie
import Derived.ProofKit
import Derived.LaidMore
import Derived.Stop.Joined
import Derived.Lib.LaidIn
import Derived.Lib.LaidU8
import Derived.SevenTiedAt
import Derived.MakeChecks
set_option maxRecDepth 4000
set_option linter.all false
set_option linter.unusedVariables false
set_option linter.unusedSimpArgs false
namespace Go.Proofs.YtnapnedfhimikaaDoor
open Go Go.Lib Go.Shelf Go.Vg Go.ChangeShapes Go.WideShapes Go.ChangeAt Go.RowKit

theorem Tryd.own : ownKnob Tryd.prog.godebug = none := by kernel_rfl
theorem Tryd.laidOut : laidOutB Tryd.prog = true := by kernel_rfl
theorem glb0 (W : World) : GlbOk [] W (fun _ => False) := ⟨fun g cs h => by simp [glook] at h⟩
theorem sl_le {s : Sh} {α : Type} {f : α → V} {m : s.T → α} (h : ∀ p, s.val p = f (m p)) (l : List s.T) : LeP [] ((Sh.sl s).val l) (.sl s.sz f (l.map m)) :=
  .sl' _ _ (l.map s.val) rfl _ _ (by simp) fun i e p h1 h2 => by
    rw [List.getElem?_map] at h1 h2
    cases hl : l[i]? with
    | none => rw [hl] at h1; cases h1
    | some q => rw [hl] at h1 h2; cases h1; cases h2; rw [h q]; exact VEq.refl _
/-- THE WITNESS: the two variables hold what their initialisers lay. -/
noncomputable def laidWorld (os : Os) : World :=
  let w0 := World.holding Tryd.prog os ⟨#[], #[], []⟩
  let put (h : Array Obj) (g : Nat) (cs : Array Value) : Array Obj := h.modify g fun
    | .cells _ t frozen => .cells cs t frozen
    | o => o
  let h1 := put w0.heap 0 (Lib.firstTab.map fun z => Value.int .u8 z).toArray
  let h2 := put h1 1 ((List.range 16).flatMap fun i => [Value.int .u8 (Lib.accLo i), Value.int .u8 (Lib.accHi i)]).toArray
  { w0 with heap := h2 }
def laid2 : List (String × DataW Unit) := [("unicode/utf8.acceptRanges", Rows.laid_unicode_utf8_acceptRanges), ("unicode/utf8.first", Rows.laid_unicode_utf8_first)]
theorem laid_met (os : Os) (args : Array Value) : laidMetH Tryd.prog laid2 ((laidWorld os).forCall (fun _ _ => 0) ⟨#[], args, []⟩).memory := by
  rw [MakeChecks.laidMetH_plain _ _ _ (by kernel_rfl)]
  exact (LaidIn.of_run (l := laid2) [1, 0] 8 (by kernel_rfl) (by kernel_rfl) (by kernel_rfl) (by kernel_rfl)).met

set_option maxRecDepth 100000 in
theorem blocksTurns_lifted (os : Os) (started : os.Started) (H : Type) (enc : TypeId × Value → H) :
    ReturnsInHanded {} Tryd.checked os 4 .any (fun w args => (Rows.blocksTurnsSpec.pre enc Tryd.prog Tryd.f4 [] false w args ∧ laidMetH Tryd.prog laid2 w) ∧ sizedMet enc Tryd.prog Tryd.f4 (OpenSpec.ofChange Rows.blocksTurnsSpec) false w args) (Rows.blocksTurnsSpec.post enc Tryd.prog Tryd.f4 false true false false) := by
  refine returnsInHanded_of_change_and (C := Tryd.checked) (X := fun w _ => laidMetH Tryd.prog laid2 w) (fun _ _ _ hh h => h.of_heap hh) Tryd.own started (by kernel_rfl) Tryd.func4
    (ChangeSpec.witness_shaped (enc := enc) (C := Tryd.checked) (os := os) (X := fun w _ => laidMetH Tryd.prog laid2 w) false (laidWorld os) #[.slice none 0 0, .int .i64 0] 8 rfl (World.shaped_of_RefB (by kernel_rfl) (by kernel_rfl)) (by kernel_rfl) (by kernel_rfl) (by kernel_rfl) (laid_met os _)) ?_
  intro W base args ds gs before hval0 hW _ _ _ _
  have hval : ∀ (j : Nat) t v, Tryd.f4.params[j]? = some t → args[j]? = some v → Value.okWide Tryd.prog W .any base t v := hval0
  have hW' := hW
  obtain ⟨p, q, hA0, hV, rfl, _, _⟩ := hW
  have hA : DataW.TrodAll enc Tryd.prog W 0 (fun _ => true) true Tryd.f4.params.toList args.toList ds p := hA0
  rw [Tryd.params4] at hA hval
  obtain ⟨v0, v1, d0, d1, p0, p1, rfl, rfl, rfl, h0, h1⟩ := trodAll_two hA
  obtain ⟨rfl, rfl⟩ := trodVars_none hV
  clear hA0 hval0
  simp only [List.append_nil] at hW'
  have hlt : ∀ x ∈ (p0 ++ p1), x.block < W.heap.size := fun x hx => hW'.lt x (by simpa using hx)
  obtain ⟨x0, e0⟩ := open_val (n := 30) (s := .sl shBlock) (by kernel_rfl) (hval 0 22 v0 rfl rfl) h0
  obtain ⟨x1, e1⟩ := open_val (n := 30) (s := .int .i64) (by kernel_rfl) (hval 1 3 v1 rfl rfl) h1
  have law : AVal Tryd.prog [] 4 [Sh.val (.sl shBlock) x0, Sh.val (.int .i64) x1] (e_bool true) := AVal.le (v_jetsamlaw12_BlocksTurns (law_BlocksTurns (x0.map mkBlock) x1 (len64 e0.wf))) (.cons _ _ _ _ (sl_le (f := e_blocks_Block) (m := mkBlock) (fun _ => rfl) x0) (.cons _ _ _ _ (.same _) .nil))
  refine (law.calls rfl (glb0 W) (vs := #[v0, v1]) rfl (fun i v x h1 h2 => ?_)).mono fun e W' he => ?_
  · match i, h1, h2 with
    | 0, h1, h2 => cases h1; cases h2; exact e0
    | 1, h1, h2 => cases h1; cases h2; exact e1
    | i + 2, h1, h2 => simp at h1
  obtain ⟨v, F', rfl, bel, hv, _⟩ := he
  have hv := RA.of_bool (RA.d (β := fun _ => none) (o := []) _ _ hv)
  subst hv
  exact ⟨_, rfl, _, _, _, [], _, [], hW', trodAll_mk1 (shut_bool Tryd.underlying4 _), by exact trodAll_mk2 (Below.trod Tryd.laidOut (by kernel_rfl) (of_decide_eq_true (by kernel_rfl)) h0 bel (fun x hx => hlt x (by simp [hx]))) (Below.trod Tryd.laidOut (by kernel_rfl) (of_decide_eq_true (by kernel_rfl)) h1 bel (fun x hx => hlt x (by simp [hx]))), rfl, bel.frame _, fun h => by cases h⟩

theorem blocksTurns_holds : Rows.BlocksTurnsSaid :=
  OpenClaim.holds_of_wide 4 Tryd.f4 rfl rfl rfl rfl rfl rfl rfl ⟨rfl, rfl, rfl, rfl, rfl⟩ rfl rfl rfl rfl rfl (by kernel_rfl) Tryd.func4 (by kernel_rfl)
    (of_decide_eq_true (by kernel_rfl)) (by unfold Func.isWrapper; first | (rw [if_pos (by decide +kernel)]; kernel_rfl) | (rw [if_neg (by decide +kernel)]; exact ⟨rfl, rfl⟩))
    (fun os started H enc _ => blocksTurns_lifted os started H enc)
#print axioms blocksTurns_holds
theorem blocksTurns_card : Rows.BlocksTurnsCardSaid :=
  Claim7.holds_tied_plain_at .later [] [.data, .pinned] true (true, "a166167d0ccb9eb56b213a30376921621cb7092b07efc74a920139b9dc1d6385") false
    blocksTurns_holds (fun _ h => by cases h) (by kernel_rfl) (fun _ h => by cases h) blocksTurns_row_tie rfl ⟨rfl, rfl⟩ (by kernel_rfl) rfl
    (fun f fn hf hfn => by
      obtain rfl : f = 4 := Option.some.inj ((show Tryd.prog.funcNamed "jetsam/jetsamlaw12.BlocksTurns" = some 4 by kernel_rfl).symm.trans hf) |>.symm
      obtain rfl : fn = Tryd.f4 := (Option.some.inj (Tryd.func4.symm.trans hfn)).symm
      exact ⟨by kernel_rfl, fun j t ht => by
        rw [Tryd.params4] at ht
        have hm : t ∈ [22, 3] := by simpa using Array.mem_of_getElem? ht
        have hall : ([22, 3].all fun u => !Tryd.prog.wantsStandIn u) = true := by kernel_rfl
        exact (show Tryd.prog.wantsStandIn t = false by simpa using List.all_eq_true.1 hall t hm)⟩)
    (by kernel_rfl)
#print axioms blocksTurns_card

end Go.Proofs.YtnapnedfhimikaaDoor
