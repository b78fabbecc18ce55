/- The rows, and the cards: each statement out of its walk and its plain law. No condition. -/
import Derived.Test.YtpdklmagncfhaaaDoorV1
import Derived.Test.YtpdklmagncfhaaaDoorQ8
import Derived.Test.YtpdklmagncfhaaaDoorM1
import Derived.Test.YtpdklmagncfhaaaDoorSl
import Derived.Lib.LaidU8T
import Derived.Test.YtpdklmagncfhaaaDoorA7
import Derived.Test.YtpdklmagncfhaaaDoorRows
import Derived.Test.YtpdklmagncfhaaaDoorCards
import Derived.Test.YtpdklmagncfhaaaDoorTie
import Derived.ProofKit
import Derived.LaidMore
import Derived.Stop.Joined
import Derived.Lib.LaidIn
import Derived.Lib.LaidU8
import Derived.SevenTiedAt
import Derived.MakeChecks
import Derived.Test.YtpdklmagncfhaaaDoorA9
import Derived.Test.YtpdklmagncfhaaaDoorXs
set_option maxRecDepth 4000
set_option linter.all false
set_option linter.unusedVariables false
set_option linter.unusedSimpArgs false
namespace Go.Proofs.YtpdklmagncfhaaaDoor
open Go Go.Lib Go.Shelf Go.Vg Go.ChangeShapes Go.WideShapes Go.ChangeAt Go.RowKit

theorem Tryd.own : ownKnob Tryd.prog.godebug = none := by kernel_rfl
theorem Tryd.laidOut : laidOutB Tryd.prog = true := by kernel_rfl
theorem sl_le {s : Sh} {α : Type} {f : α → V} {m : s.T → α} (h : ∀ p, s.val p = f (m p)) (l : List s.T) : LeP [] ((Sh.sl s).val l) (.sl s.sz f (l.map m)) :=
  .sl' _ _ (l.map s.val) rfl _ _ (by simp) fun i e p h1 h2 => by
    rw [List.getElem?_map] at h1 h2
    cases hl : l[i]? with
    | none => rw [hl] at h1; cases h1
    | some q => rw [hl] at h1 h2; cases h1; cases h2; rw [h q]; exact VEq.refl _

/-- THE WITNESS: the two variables hold what their initialisers lay. -/
noncomputable def laidWorld (os : Os) : World :=
  let w0 := World.holding Tryd.prog os ⟨#[], #[], []⟩
  let put (h : Array Obj) (g : Nat) (cs : Array Value) : Array Obj := h.modify g fun
    | .cells _ t frozen => .cells cs t frozen
    | o => o
  let h1 := put w0.heap 0 (Lib.firstTab.map fun z => Value.int .u8 z).toArray
  let h2 := put h1 1 ((List.range 16).flatMap fun i => [Value.int .u8 (Lib.accLo i), Value.int .u8 (Lib.accHi i)]).toArray
  { w0 with heap := h2 }
def laidL : List (String × DataW Unit) := [("unicode/utf8.acceptRanges", Rows.laid_unicode_utf8_acceptRanges), ("unicode/utf8.first", Rows.laid_unicode_utf8_first)]
theorem laid_met (os : Os) (args : Array Value) : laidMetH Tryd.prog laidL ((laidWorld os).forCall (fun _ _ => 0) ⟨#[], args, []⟩).memory := by
  rw [MakeChecks.laidMetH_plain _ _ _ (by kernel_rfl)]
  exact (LaidIn.of_run (l := laidL) [1, 0] 8 (by kernel_rfl) (by kernel_rfl) (by kernel_rfl) (by kernel_rfl)).met
theorem u8types : U8Types Tryd.prog Tryd.lays230_ren := { t5 := Tryd.lays230.t5, t119 := Tryd.lays230.t119, t138 := Tryd.lays230.t138, t139 := Tryd.lays230.t139 }
theorem u8extra : U8Extra Tryd.prog Tryd.lays230_ren := ⟨by kernel_rfl, by kernel_rfl, by kernel_rfl, by kernel_rfl, by kernel_rfl, by kernel_rfl, by kernel_rfl⟩
theorem cell_lt {w : World} {b i : Nat} {v : Value} (h : w.cell? ⟨b, i, none⟩ = some v) : b < w.heap.size := by
  have : ∃ o, w.heap[b]? = some o := by
    cases e : w.heap[b]? with
    | none => simp [World.cell?, e] at h
    | some o => exact ⟨o, rfl⟩
  obtain ⟨o, ho⟩ := this
  exact (Array.getElem?_eq_some_iff.1 ho).1
theorem rd_cells {w : World} {g : Nat} {cs : List V} {z : Nat → Nat} (h0 : 0 < cs.length) (h : ∀ j, j < cs.length → cs[j]? = some (.int .u8 (.lit (z j))) ∧ w.cell? ⟨g, j, none⟩ = some (.int .u8 (z j)) ∧ z j < 256) : RD w (fun _ => False) (.pointer (some ⟨g, 0, none⟩)) (.rptr cs) := by
  have hj : ∀ (j : Nat) (y : V), cs[j]? = some y → y = .int .u8 (.lit (z j)) ∧ w.cell? ⟨g, j, none⟩ = some (.int .u8 (z j)) ∧ z j < 256 := fun j y hy => by
    obtain ⟨h1, h2, h3⟩ := h j (List.getElem?_eq_some_iff.1 hy).1
    rw [h1] at hy
    exact ⟨(Option.some.inj hy).symm, h2, h3⟩
  refine .rptr ⟨g, 0, none⟩ cs rfl (fun h => h) (cell_lt (h 0 h0).2.1) (fun j => .int .u8 (z j)) (fun j y hy => rfl) (fun j y hy => ?_) (fun j y hy => ?_)
  · show w.cell? ⟨g, 0 + j, none⟩ = _
    rw [Nat.zero_add]
    exact (hj j y hy).2.1
  · obtain ⟨e, _, h3⟩ := hj j y hy
    subst e
    exact .int _ _ _ rfl ((has_iff _ _).2 (by simp only [lo, hi]; omega))
theorem gl_small : (((List.range 256).all fun c => decide (Lib.firstT c < 256)) && ((List.range 16).all fun c => decide (Lib.accLo c < 256 ∧ Lib.accHi c < 256))) = true := by kernel_rfl
theorem glbL {W : World} (h : laidMetH Tryd.prog laidL W) : GlbOk Gl W (fun _ => False) := by
  rw [MakeChecks.laidMetH_plain _ _ _ (by kernel_rfl)] at h
  have ht : Lib.Utf8Tabs 0 1 W := utf8Tabs_of_readsT u8types u8extra (laidMet.reads h (n := "unicode/utf8.first") (d := Rows.laid_unicode_utf8_first) (by simp [laidL])) (laidMet.reads h (n := "unicode/utf8.acceptRanges") (d := Rows.laid_unicode_utf8_acceptRanges) (by simp [laidL]))
  have hs := gl_small
  rw [Bool.and_eq_true, List.all_eq_true, List.all_eq_true] at hs
  have g0 : RD W (fun _ => False) (.pointer (some ⟨0, 0, none⟩)) (.rptr ((glook Gl 0).getD [])) := by
    have hl : ((glook Gl 0).getD []).length = 256 := by kernel_rfl
    refine rd_cells (z := Lib.firstT) (by rw [hl]; decide) (fun j hj => ?_)
    rw [hl] at hj
    obtain ⟨cs, e1, e2⟩ := gl_first j hj
    rw [e1]
    exact ⟨e2, ht.1 j hj, by simpa using hs.1 j (List.mem_range.2 hj)⟩
  have g1 : RD W (fun _ => False) (.pointer (some ⟨1, 0, none⟩)) (.rptr ((glook Gl 1).getD [])) := by
    have hl : ((glook Gl 1).getD []).length = 32 := by kernel_rfl
    refine rd_cells (z := fun j => if j % 2 = 0 then Lib.accLo (j / 2) else Lib.accHi (j / 2)) (by rw [hl]; decide) (fun j hj => ?_)
    rw [hl] at hj
    obtain ⟨cs, e1, e2, e3⟩ := gl_acc (j / 2) (by omega)
    have e4 := ht.2 (j / 2) (by omega)
    have e5 := hs.2 (j / 2) (List.mem_range.2 (by omega))
    rw [decide_eq_true_eq] at e5
    rw [e1]
    by_cases h2 : j % 2 = 0
    · simp only [if_pos h2]
      rw [show 2 * (j / 2) = j by omega] at e2 e4
      exact ⟨e2, e4.1, e5.1⟩
    · simp only [if_neg h2]
      rw [show 2 * (j / 2) + 1 = j by omega] at e3 e4
      exact ⟨e3, e4.2, e5.2⟩
  refine ⟨fun g cs hg => ?_⟩
  have hg2 : (g = 0 ∧ glook Gl 0 = some cs) ∨ (g = 1 ∧ glook Gl 1 = some cs) := by
    have hg3 := hg
    unfold Gl at hg
    simp only [glook] at hg
    cases e : eqN 0 g with
    | true => have := eqN_true e; subst this; exact .inl ⟨rfl, hg3⟩
    | false =>
      rw [e] at hg
      cases e' : eqN 1 g with
      | true => have := eqN_true e'; subst this; exact .inr ⟨rfl, hg3⟩
      | false => rw [e'] at hg; cases hg
  rcases hg2 with ⟨rfl, e⟩ | ⟨rfl, e⟩
  · rw [e] at g0; exact g0
  · rw [e] at g1; exact g1
set_option maxRecDepth 100000 in
theorem tagsCues_lifted (os : Os) (started : os.Started) (H : Type) (enc : TypeId × Value → H) :
    ReturnsInHanded {} Tryd.checked os 7 .any (fun w args => (Rows.tagsCuesSpec.pre enc Tryd.prog Tryd.f7 [] false w args ∧ laidMetH Tryd.prog laidL w) ∧ sizedMet enc Tryd.prog Tryd.f7 (OpenSpec.ofChange Rows.tagsCuesSpec) false w args) (Rows.tagsCuesSpec.post enc Tryd.prog Tryd.f7 false true false false) := by
  refine returnsInHanded_of_change_and (C := Tryd.checked) (X := fun w _ => laidMetH Tryd.prog laidL w) (fun _ _ _ hh h => h.of_heap hh) Tryd.own started (by kernel_rfl) Tryd.func7
    (ChangeSpec.witness_shaped (enc := enc) (C := Tryd.checked) (os := os) (X := fun w _ => laidMetH Tryd.prog laidL w) false (laidWorld os) #[.agg #[.string ⟨#[]⟩, .int .i64 0, .bool false, .slice none 0 0]] 8 rfl (World.shaped_of_RefB (by kernel_rfl) (by kernel_rfl)) (by kernel_rfl) (by kernel_rfl) (by kernel_rfl) (laid_met os _)) ?_
  intro W base args ds gs before hval0 hW _ hZ hX _
  have hval : ∀ (j : Nat) t v, Tryd.f7.params[j]? = some t → args[j]? = some v → Value.okWide Tryd.prog W .any base t v := hval0
  have hW' := hW
  obtain ⟨p, q, hA0, hV, rfl, _, _⟩ := hW
  have hA : DataW.TrodAll enc Tryd.prog W 0 (fun _ => true) true Tryd.f7.params.toList args.toList ds p := hA0
  rw [Tryd.params7] at hA hval
  obtain ⟨v0, d0, rfl, rfl, h0⟩ := trodAll_one hA
  obtain ⟨rfl, rfl⟩ := trodVars_none hV
  clear hA0 hval0
  simp only [List.append_nil] at hW'
  have hlt : ∀ x ∈ p, x.block < W.heap.size := fun x hx => hW'.lt x (by simpa using hx)
  obtain ⟨x0, e0, z0⟩ := open_vals (B := reachBytes) (n := 30) (s := shCue) (by kernel_rfl) (hval 0 57 v0 rfl rfl) h0 (fun k hk => by have := List.all_eq_true.1 hZ k (DataW.weights_mem_each (j := 0) (t := 57) (by rw [Tryd.params7]; rfl) rfl k hk); simpa using this)
  have law : AVal Tryd.prog Gl 7 [Sh.val (shCue) x0] (e_bool true) := AVal.le (v_jetsamlaw13_TagsCues (tagsCues (c := mkCue x0) (cueWf e0.wf z0))) (.cons _ _ _ _ (le_cue x0) .nil)
  refine (law.calls rfl (glbL hX) (vs := #[v0]) rfl (fun i v x h1 h2 => ?_)).mono fun e W' he => ?_
  · match i, h1, h2 with
    | 0, h1, h2 => cases h1; cases h2; exact e0
    | i + 1, h1, h2 => simp at h1
  obtain ⟨v, F', rfl, bel, hv, _⟩ := he
  have hv := RA.of_bool (RA.d (β := fun _ => none) (o := []) _ _ hv)
  subst hv
  exact ⟨_, rfl, _, _, _, [], _, [], hW', trodAll_mk1 (shut_bool Tryd.underlying4 _), trodAll_mk1 (Below.trod Tryd.laidOut (by kernel_rfl) (of_decide_eq_true (by kernel_rfl)) h0 bel hlt), rfl, bel.frame _, fun h => by cases h⟩

theorem tagsCues_holds : Rows.TagsCuesSaid :=
  OpenClaim.holds_of_wide 7 Tryd.f7 rfl rfl rfl rfl rfl rfl rfl ⟨rfl, rfl, rfl, rfl, rfl⟩ rfl rfl rfl rfl rfl (by kernel_rfl) Tryd.func7 (by kernel_rfl)
    (of_decide_eq_true (by kernel_rfl)) (by unfold Func.isWrapper; first | (rw [if_pos (by decide +kernel)]; kernel_rfl) | (rw [if_neg (by decide +kernel)]; exact ⟨rfl, rfl⟩))
    (fun os started H enc _ => tagsCues_lifted os started H enc)
#print axioms tagsCues_holds
theorem tagsCues_card : Rows.TagsCuesCardSaid :=
  Claim7.holds_tied_plain_at .later [] [.data, .pinned] true (true, "7f16c1cf2d5924c6daea43160b2346543683471b4b8b442e56be95cdfbb44b65") false
    tagsCues_holds (fun _ h => by cases h) (by kernel_rfl) (fun _ h => by cases h) tagsCues_row_tie rfl ⟨rfl, rfl⟩ (by kernel_rfl) rfl
    (fun f fn hf hfn => by
      obtain rfl : f = 7 := Option.some.inj ((show Tryd.prog.funcNamed "jetsam/jetsamlaw13.TagsCues" = some 7 by kernel_rfl).symm.trans hf) |>.symm
      obtain rfl : fn = Tryd.f7 := (Option.some.inj (Tryd.func7.symm.trans hfn)).symm
      exact ⟨by kernel_rfl, fun j t ht => by
        rw [Tryd.params7] at ht
        have hm : t ∈ [57] := by simpa using Array.mem_of_getElem? ht
        have hall : ([57].all fun u => !Tryd.prog.wantsStandIn u) = true := by kernel_rfl
        exact (show Tryd.prog.wantsStandIn t = false by simpa using List.all_eq_true.1 hall t hm)⟩)
    (by kernel_rfl)
#print axioms tagsCues_card

end Go.Proofs.YtpdklmagncfhaaaDoor
