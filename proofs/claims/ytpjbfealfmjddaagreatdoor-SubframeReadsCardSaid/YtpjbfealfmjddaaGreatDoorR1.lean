/- The rows, and the cards: each statement out of its walk and its plain law. No condition. -/
import Derived.Test.YtpjbfealfmjddaaGreatDoorV4
import Derived.Test.YtpjbfealfmjddaaGreatDoorQ8
import Derived.Test.YtpjbfealfmjddaaGreatDoorM5
import Derived.Test.YtpjbfealfmjddaaGreatDoorA7
import Derived.Test.YtpjbfealfmjddaaGreatDoorRows
import Derived.Test.YtpjbfealfmjddaaGreatDoorCards
import Derived.Test.YtpjbfealfmjddaaGreatDoorTie
import Derived.ProofKit
import Derived.LaidMore
import Derived.Stop.Joined
import Derived.Lib.LaidIn
import Derived.Lib.LaidU8
import Derived.SevenTiedAt
import Derived.MakeChecks
import Derived.Test.YtpjbfealfmjddaaGreatDoorA9
set_option maxRecDepth 4000
set_option linter.all false
set_option linter.unusedVariables false
set_option linter.unusedSimpArgs false
namespace Go.Proofs.YtpjbfealfmjddaaGreatDoor
open Go Go.Lib Go.Shelf Go.Vg Go.ChangeShapes Go.WideShapes Go.ChangeAt Go.RowKit

theorem Tryz.own : ownKnob Tryz.prog.godebug = none := by kernel_rfl
theorem Tryz.laidOut : laidOutB Tryz.prog = true := by kernel_rfl
theorem sl_le {s : Sh} {α : Type} {f : α → V} {m : s.T → α} (h : ∀ p, s.val p = f (m p)) (l : List s.T) : LeP [] ((Sh.sl s).val l) (.sl s.sz f (l.map m)) :=
  .sl' _ _ (l.map s.val) rfl _ _ (by simp) fun i e p h1 h2 => by
    rw [List.getElem?_map] at h1 h2
    cases hl : l[i]? with
    | none => rw [hl] at h1; cases h1
    | some q => rw [hl] at h1 h2; cases h1; cases h2; rw [h q]; exact VEq.refl _

/-- THE WITNESS: the variable holds what its initialiser lays. -/
def fixedT : List (List Int) := [[0, 0, 0, 0], [1, 0, 0, 0], [2, -1, 0, 0], [3, -3, 1, 0], [4, -6, 4, -1]]
noncomputable def laidWorld (os : Os) : World :=
  let w0 := World.holding Tryz.prog os ⟨#[], #[], []⟩
  let put (h : Array Obj) (g : Nat) (cs : Array Value) : Array Obj := h.modify g fun
    | .cells _ t frozen => .cells cs t frozen
    | o => o
  { w0 with heap := put w0.heap 0 (fixedT.flatten.map fun z => Value.int .i64 z).toArray }
def laidL : List (String × DataW Unit) := [("jetsam/predict.fixed", Rows.laid_jetsam_predict_fixed)]
theorem laid_met (os : Os) (args : Array Value) : laidMetH Tryz.prog laidL ((laidWorld os).forCall (fun _ _ => 0) ⟨#[], args, []⟩).memory := by
  rw [MakeChecks.laidMetH_plain _ _ _ (by kernel_rfl)]
  exact (LaidIn.of_run (l := laidL) [0] 8 (by kernel_rfl) (by kernel_rfl) (by kernel_rfl) (by kernel_rfl)).met
theorem glbL {W : World} (h : laidMetH Tryz.prog laidL W) : GlbOk Gl W (fun _ => False) := by
  rw [MakeChecks.laidMetH_plain _ _ _ (by kernel_rfl)] at h
  obtain ⟨g, t, cs, fuel, p, h1, h2, h3, h4⟩ := laidMet.reads h (n := "jetsam/predict.fixed") (d := Rows.laid_jetsam_predict_fixed) (List.mem_cons_self ..)
  have hg : Tryz.prog.globalNamed "jetsam/predict.fixed" = some 0 := by kernel_rfl
  obtain rfl : 0 = g := Option.some.inj (hg.symm.trans h1)
  have ht : (Tryz.prog.globals[0]?).map (·.type) = some 137 := by kernel_rfl
  obtain rfl : 137 = t := Option.some.inj (ht.symm.trans h2)
  have hc := cells_of_tab2 (P := Tryz.prog) (t := 137) (e := 136) (u := 3) (n := 5) (m := 4) (k := .i64) (zss := fixedT) (by kernel_rfl) (by kernel_rfl) (by kernel_rfl) (by kernel_rfl) (by kernel_rfl) (by kernel_rfl) (by decide) h4
  exact glb_cons (rd_var hg h3 hc (by decide)) glb_nil

set_option maxRecDepth 100000 in
theorem subframeReads_lifted (os : Os) (started : os.Started) (H : Type) (enc : TypeId × Value → H) :
    ReturnsInHanded {} Tryz.checked os 3 .any (fun w args => (Rows.subframeReadsSpec.pre enc Tryz.prog Tryz.f3 [] false w args ∧ laidMetH Tryz.prog laidL w) ∧ sizedMet enc Tryz.prog Tryz.f3 (OpenSpec.ofChange Rows.subframeReadsSpec) false w args) (Rows.subframeReadsSpec.post enc Tryz.prog Tryz.f3 false true false false) := by
  refine returnsInHanded_of_change_and (C := Tryz.checked) (X := fun w _ => laidMetH Tryz.prog laidL w) (fun _ _ _ hh h => h.of_heap hh) Tryz.own started (by kernel_rfl) Tryz.func3
    (ChangeSpec.witness_shaped (enc := enc) (C := Tryz.checked) (os := os) (X := fun w _ => laidMetH Tryz.prog laidL w) false (laidWorld os) #[.slice none 0 0, .int .i64 0, .agg #[.int .i64 0, .int .i64 0]] 8 rfl (World.shaped_of_RefB (by kernel_rfl) (by kernel_rfl)) (by kernel_rfl) (by kernel_rfl) (by kernel_rfl) (laid_met os _)) ?_
  intro W base args ds gs before hval0 hW _ _ hX _
  have hval : ∀ (j : Nat) t v, Tryz.f3.params[j]? = some t → args[j]? = some v → Value.okWide Tryz.prog W .any base t v := hval0
  have hW' := hW
  obtain ⟨p, q, hA0, hV, rfl, _, _⟩ := hW
  have hA : DataW.TrodAll enc Tryz.prog W 0 (fun _ => true) true Tryz.f3.params.toList args.toList ds p := hA0
  rw [Tryz.params3] at hA hval
  obtain ⟨v0, v1, v2, d0, d1, d2, p0, p1, p2, rfl, rfl, rfl, h0, h1, h2⟩ := trodAll_three hA
  obtain ⟨rfl, rfl⟩ := trodVars_none hV
  clear hA0 hval0
  simp only [List.append_nil] at hW'
  have hlt : ∀ x ∈ (p0 ++ p1 ++ p2), x.block < W.heap.size := fun x hx => hW'.lt x (by simpa using hx)
  obtain ⟨x0, e0⟩ := open_val (n := 30) (s := .sl (.int .u8)) (by kernel_rfl) (hval 0 22 v0 rfl rfl) h0
  obtain ⟨x1, e1⟩ := open_val (n := 30) (s := .int .i64) (by kernel_rfl) (hval 1 3 v1 rfl rfl) h1
  obtain ⟨x2, e2⟩ := open_val (n := 30) (s := .pair (.int .i64) (.int .i64)) (by kernel_rfl) (hval 2 23 v2 rfl rfl) h2
  have law : AVal Tryz.prog Gl 3 [Sh.val (.sl (.int .u8)) x0, Sh.val (.int .i64) x1, Sh.val (.pair (.int .i64) (.int .i64)) x2] (e_bool true) := AVal.le (v_jetsamlaw07_SubframeReads (law_SubframeReads (bytes_of_RD e0) x1 ⟨x2.1, x2.2⟩)) (.cons _ _ _ _ (.same _) (.cons _ _ _ _ (.same _) (.cons _ _ _ _ (.same _) .nil)))
  refine (law.calls rfl (glbL hX) (vs := #[v0, v1, v2]) rfl (fun i v x h1 h2 => ?_)).mono fun e W' he => ?_
  · match i, h1, h2 with
    | 0, h1, h2 => cases h1; cases h2; exact e0
    | 1, h1, h2 => cases h1; cases h2; exact e1
    | 2, h1, h2 => cases h1; cases h2; exact e2
    | i + 3, h1, h2 => simp at h1
  obtain ⟨v, F', rfl, bel, hv, _⟩ := he
  have hv := RA.of_bool (RA.d (β := fun _ => none) (o := []) _ _ hv)
  subst hv
  exact ⟨_, rfl, _, _, _, [], _, [], hW', trodAll_mk1 (shut_bool Tryz.underlying4 _), by exact trodAll_mk3 (Below.trod Tryz.laidOut (by kernel_rfl) (of_decide_eq_true (by kernel_rfl)) h0 bel (fun x hx => hlt x (by simp [hx]))) (Below.trod Tryz.laidOut (by kernel_rfl) (of_decide_eq_true (by kernel_rfl)) h1 bel (fun x hx => hlt x (by simp [hx]))) (Below.trod Tryz.laidOut (by kernel_rfl) (of_decide_eq_true (by kernel_rfl)) h2 bel (fun x hx => hlt x (by simp [hx]))), rfl, bel.frame _, fun h => by cases h⟩

theorem subframeReads_holds : Rows.SubframeReadsSaid :=
  OpenClaim.holds_of_wide 3 Tryz.f3 rfl rfl rfl rfl rfl rfl rfl ⟨rfl, rfl, rfl, rfl, rfl⟩ rfl rfl rfl rfl rfl (by kernel_rfl) Tryz.func3 (by kernel_rfl)
    (of_decide_eq_true (by kernel_rfl)) (by unfold Func.isWrapper; first | (rw [if_pos (by decide +kernel)]; kernel_rfl) | (rw [if_neg (by decide +kernel)]; exact ⟨rfl, rfl⟩))
    (fun os started H enc _ => subframeReads_lifted os started H enc)
#print axioms subframeReads_holds
theorem subframeReads_card : Rows.SubframeReadsCardSaid :=
  Claim7.holds_tied_plain_at .later [] [.data] true (true, "47117724fee98006e7916a12b7242b1d0084474a2e71103eff18dddda2ea93bf") false
    subframeReads_holds (fun _ h => by cases h) (by kernel_rfl) (fun _ h => by cases h) subframeReads_row_tie rfl ⟨rfl, rfl⟩ (by kernel_rfl) rfl
    (fun f fn hf hfn => by
      obtain rfl : f = 3 := Option.some.inj ((show Tryz.prog.funcNamed "jetsam/jetsamlaw07.SubframeReads" = some 3 by kernel_rfl).symm.trans hf) |>.symm
      obtain rfl : fn = Tryz.f3 := (Option.some.inj (Tryz.func3.symm.trans hfn)).symm
      exact ⟨by kernel_rfl, fun j t ht => by
        rw [Tryz.params3] at ht
        have hm : t ∈ [22, 3, 23] := by simpa using Array.mem_of_getElem? ht
        have hall : ([22, 3, 23].all fun u => !Tryz.prog.wantsStandIn u) = true := by kernel_rfl
        exact (show Tryz.prog.wantsStandIn t = false by simpa using List.all_eq_true.1 hall t hm)⟩)
    (by kernel_rfl)
#print axioms subframeReads_card

end Go.Proofs.YtpjbfealfmjddaaGreatDoor
