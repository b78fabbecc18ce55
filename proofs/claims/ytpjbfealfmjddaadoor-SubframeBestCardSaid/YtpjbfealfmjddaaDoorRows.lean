/-
  NARROWER THAN 'FOR EVERY INPUT', by the rows' own cells (each row's printed sentence says how): SubframeBest: laid · SubframeShort: laid · SubframeBack: laid.
  DERIVED. THE GIVEN ROWS OF THIS SEAT. 3 by the template 'for every input the law returns true; each argument reads behind the call as it read before'; 0 by the template 'total and deterministic' (their statements: YtpjbfealfmjddaaDoorTotals.lean).
  GIVEN WITH THE SEED: the statements are not yours to turn. If you find one false, say at which input.
  Laid BY PROGRAM, IN A SANDBOX (cutbox-rows.mjs): the forced cells as the released guide's own fill.sh prints them over the translation 32a6424d985600c4… (all of the seat's roots in one cut). By AI agents, Wed Nov 11 2026. No macro, syntax, notation, axiom, sorry.
-/
import Derived.Test.YtpjbfealfmjddaaDoorChecked
import GoSem.Claim
import GoSem.ClaimJoined
import GoSem.ClaimMapViews
import Derived.JoinedTies
import Derived.KernelRfl
namespace Go.Proofs.YtpjbfealfmjddaaDoor
/- THE CELL 'sum', in the pinned program and in every row, IS THE sha256 OF THE DUMP (.gsa) THAT YtpjbfealfmjddaaDoorProg.lean LOADS. Nothing in Lean hashes anything: it is a label: what it is worth is what the hold of that sum in a sandbox is worth. -/
noncomputable def Tryd.pinned : Pinned := { name := "ytpjbfealfmjddaadoor", sum := "32a6424d985600c4f39f5fdcf7d521f4d7b63d5710ed5e85091bdb26734cc53d", checked := Tryd.checked }
namespace Rows
def none {H : Type} : Left H := { results := [], args := [] }

/- WHAT THE LISTED PACKAGE-LEVEL VARIABLES READ AS WHEN THE CALL BEGINS. Each datum BY PROGRAM (the guide's laid-datum.mjs) off the statement by which the dump's own 'gosem.cut.vars' lays the variable. In a bare row this is a premise. The card (YtpjbfealfmjddaaDoorCards.lean) ties it to the program's text. -/
def laid_jetsam_predict_fixed {H : Type} : DataW H := .agg [.agg [.lit (.int .i64 0), .lit (.int .i64 0), .lit (.int .i64 0), .lit (.int .i64 0)], .agg [.lit (.int .i64 1), .lit (.int .i64 0), .lit (.int .i64 0), .lit (.int .i64 0)], .agg [.lit (.int .i64 2), .lit (.int .i64 (-1)), .lit (.int .i64 0), .lit (.int .i64 0)], .agg [.lit (.int .i64 3), .lit (.int .i64 (-3)), .lit (.int .i64 1), .lit (.int .i64 0)], .agg [.lit (.int .i64 4), .lit (.int .i64 (-6)), .lit (.int .i64 4), .lit (.int .i64 (-1))]]

/-- 'jetsamlaw07.SubframeBest': WHATEVER THE INPUT: true; the input reads as it did. -/
def subframeBestSpec : ChangeSpec := { name := "subframeBest", fn := fun _ => fun
  | [d1, d2, d3] => { results := [.lit (.bool true)], args := [d1, d2, d3] }
  | _ => none }
def subframeBestRow : OpenClaim := { program := "ytpjbfealfmjddaadoor", sum := "32a6424d985600c4f39f5fdcf7d521f4d7b63d5710ed5e85091bdb26734cc53d", func := "jetsam/jetsamlaw07.SubframeBest", spec := "subframeBest", unfollowed := true, recurses := true, named := ["jetsam/predict.fixed"], apart := false, laid := [("jetsam/predict.fixed", laid_jetsam_predict_fixed)] }
def SubframeBestSaid : Prop := subframeBestRow.holds Tryd.pinned (OpenSpec.ofChange subframeBestSpec)

/-- ITS FALSE NEIGHBOUR: 'it returns false'. Refute it at one input. -/
def subframeBestWrong : ChangeSpec := { name := "subframeBest", fn := fun _ => fun
  | [d1, d2, d3] => { results := [.lit (.bool false)], args := [d1, d2, d3] }
  | _ => none }
def SubframeBestWrongFalsely : Prop := subframeBestRow.holds Tryd.pinned (OpenSpec.ofChange subframeBestWrong)

/-- 'jetsamlaw07.SubframeShort': WHATEVER THE INPUT: true; the input reads as it did. -/
def subframeShortSpec : ChangeSpec := { name := "subframeShort", fn := fun _ => fun
  | [d1, d2] => { results := [.lit (.bool true)], args := [d1, d2] }
  | _ => none }
def subframeShortRow : OpenClaim := { program := "ytpjbfealfmjddaadoor", sum := "32a6424d985600c4f39f5fdcf7d521f4d7b63d5710ed5e85091bdb26734cc53d", func := "jetsam/jetsamlaw07.SubframeShort", spec := "subframeShort", unfollowed := true, recurses := true, named := ["jetsam/predict.fixed"], apart := false, laid := [("jetsam/predict.fixed", laid_jetsam_predict_fixed)] }
def SubframeShortSaid : Prop := subframeShortRow.holds Tryd.pinned (OpenSpec.ofChange subframeShortSpec)

/-- ITS FALSE NEIGHBOUR: 'it returns false'. Refute it at one input. -/
def subframeShortWrong : ChangeSpec := { name := "subframeShort", fn := fun _ => fun
  | [d1, d2] => { results := [.lit (.bool false)], args := [d1, d2] }
  | _ => none }
def SubframeShortWrongFalsely : Prop := subframeShortRow.holds Tryd.pinned (OpenSpec.ofChange subframeShortWrong)

/-- 'jetsamlaw07.SubframeBack': WHATEVER THE INPUT: true; the input reads as it did. -/
def subframeBackSpec : ChangeSpec := { name := "subframeBack", fn := fun _ => fun
  | [d1, d2, d3] => { results := [.lit (.bool true)], args := [d1, d2, d3] }
  | _ => none }
def subframeBackRow : OpenClaim := { program := "ytpjbfealfmjddaadoor", sum := "32a6424d985600c4f39f5fdcf7d521f4d7b63d5710ed5e85091bdb26734cc53d", func := "jetsam/jetsamlaw07.SubframeBack", spec := "subframeBack", unfollowed := true, recurses := true, named := ["jetsam/predict.fixed"], apart := false, laid := [("jetsam/predict.fixed", laid_jetsam_predict_fixed)] }
def SubframeBackSaid : Prop := subframeBackRow.holds Tryd.pinned (OpenSpec.ofChange subframeBackSpec)

/-- ITS FALSE NEIGHBOUR: 'it returns false'. Refute it at one input. -/
def subframeBackWrong : ChangeSpec := { name := "subframeBack", fn := fun _ => fun
  | [d1, d2, d3] => { results := [.lit (.bool false)], args := [d1, d2, d3] }
  | _ => none }
def SubframeBackWrongFalsely : Prop := subframeBackRow.holds Tryd.pinned (OpenSpec.ofChange subframeBackWrong)

/- THE SECOND FORM. 'bulk': how many values and letters a reading holds, each counted each time it is reached (what is shared counts as often as it is met; a slice's spare places count too). A statement '..UptoSaid' is the law's where the arguments, and the package variables that the reading takes, are together of bulk at most 1048576: NARROWER than '..Said'. Prove '..Said' where nothing that the law and all that it calls make is longer than what came in: it says more and counts as full. Else prove '..UptoSaid'. A law counts once. -/
mutual
def uptoBulk {H : Type} : DataW H → Nat
  | .lit (.string bytes) => bytes.length + 1
  | .lit _ => 1
  | .nil => 1
  | .ptr d => uptoBulk d + 1
  | .slice elems spare => uptoBulkAll elems + uptoBulkAll spare + 1
  | .agg parts => uptoBulkAll parts + 1
  | .iface _ d => uptoBulk d + 1
  | .map entries => uptoBulkEntries entries + 1
  | .held _ => 1
def uptoBulkAll {H : Type} : List (DataW H) → Nat
  | [] => 0
  | d :: r => uptoBulk d + uptoBulkAll r
def uptoBulkEntries {H : Type} : List (Lit × DataW H) → Nat
  | [] => 0
  | x :: r => uptoBulkEntry x + uptoBulkEntries r
def uptoBulkEntry {H : Type} : Lit × DataW H → Nat
  | (.string bytes, d) => bytes.length + uptoBulk d + 1
  | (_, d) => uptoBulk d + 1
 end
def uptoSmall : (H : Type) → List (DataW H) → Bool := fun _ ds => decide (uptoBulkAll ds ≤ 1048576)
def OpenSpec.upto (s : _root_.Go.ChangeSpec) : _root_.Go.OpenSpec := { _root_.Go.OpenSpec.ofChange s with cond := some uptoSmall }

/-- 'jetsamlaw07.SubframeBest', WHERE WHAT IT READS IS OF BULK AT MOST 1048576: true; the input reads as it did. -/
def subframeBestUptoRow : OpenClaim := { program := "ytpjbfealfmjddaadoor", sum := "32a6424d985600c4f39f5fdcf7d521f4d7b63d5710ed5e85091bdb26734cc53d", func := "jetsam/jetsamlaw07.SubframeBest", spec := "subframeBest", unfollowed := true, recurses := true, named := ["jetsam/predict.fixed"], apart := false, laid := [("jetsam/predict.fixed", laid_jetsam_predict_fixed)], narrowed := true }
def SubframeBestUptoSaid : Prop := subframeBestUptoRow.holds Tryd.pinned (OpenSpec.upto subframeBestSpec)

/-- 'jetsamlaw07.SubframeShort', WHERE WHAT IT READS IS OF BULK AT MOST 1048576: true; the input reads as it did. -/
def subframeShortUptoRow : OpenClaim := { program := "ytpjbfealfmjddaadoor", sum := "32a6424d985600c4f39f5fdcf7d521f4d7b63d5710ed5e85091bdb26734cc53d", func := "jetsam/jetsamlaw07.SubframeShort", spec := "subframeShort", unfollowed := true, recurses := true, named := ["jetsam/predict.fixed"], apart := false, laid := [("jetsam/predict.fixed", laid_jetsam_predict_fixed)], narrowed := true }
def SubframeShortUptoSaid : Prop := subframeShortUptoRow.holds Tryd.pinned (OpenSpec.upto subframeShortSpec)

/-- 'jetsamlaw07.SubframeBack', WHERE WHAT IT READS IS OF BULK AT MOST 1048576: true; the input reads as it did. -/
def subframeBackUptoRow : OpenClaim := { program := "ytpjbfealfmjddaadoor", sum := "32a6424d985600c4f39f5fdcf7d521f4d7b63d5710ed5e85091bdb26734cc53d", func := "jetsam/jetsamlaw07.SubframeBack", spec := "subframeBack", unfollowed := true, recurses := true, named := ["jetsam/predict.fixed"], apart := false, laid := [("jetsam/predict.fixed", laid_jetsam_predict_fixed)], narrowed := true }
def SubframeBackUptoSaid : Prop := subframeBackUptoRow.holds Tryd.pinned (OpenSpec.upto subframeBackSpec)

end Rows
end Go.Proofs.YtpjbfealfmjddaaDoor
