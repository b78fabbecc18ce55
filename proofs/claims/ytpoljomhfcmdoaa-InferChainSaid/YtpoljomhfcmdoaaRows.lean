/-
  No cell of these rows narrows 'for every input' (looked for: loops, veiled, ifaces, maps, wideKeys, modest, calm, conditions, laid).
  DERIVED. THE GIVEN ROWS OF THIS SEAT. 6 by the template 'for every input the law returns true; each argument reads behind the call as it read before'; 0 by the template 'total and deterministic' (their statements: YtpoljomhfcmdoaaTotals.lean).
  GIVEN WITH THE SEED: the statements are not yours to turn. If you find one false, say at which input.
  Laid BY PROGRAM, IN A SANDBOX (cutbox-rows.mjs): the forced cells as the released guide's own fill.sh prints them over the translation 87a376bd36b4f486… (all of the seat's roots in one cut). By AI agents, Wed Nov 11 2026. No macro, syntax, notation, axiom, sorry.
-/
import Derived.Test.YtpoljomhfcmdoaaChecked
import GoSem.Claim
import GoSem.ClaimJoined
import GoSem.ClaimMapViews
import Derived.JoinedTies
import Derived.KernelRfl
namespace Go.Proofs.Ytpoljomhfcmdoaa
/- THE CELL 'sum', in the pinned program and in every row, IS THE sha256 OF THE DUMP (.gsa) THAT YtpoljomhfcmdoaaProg.lean LOADS. Nothing in Lean hashes anything: it is a label: what it is worth is what the hold of that sum in a sandbox is worth. -/
noncomputable def Try.pinned : Pinned := { name := "ytpoljomhfcmdoaa", sum := "87a376bd36b4f4861bf82b552c85ddb383d0c10924689817a5caee873a2c03e6", checked := Try.checked }
namespace Rows
def none {H : Type} : Left H := { results := [], args := [] }

/-- 'jetsamlaw17.InferParts': WHATEVER THE INPUT: true; the input reads as it did. -/
def inferPartsSpec : ChangeSpec := { name := "inferParts", fn := fun _ => fun
  | [d1, d2, d3] => { results := [.lit (.bool true)], args := [d1, d2, d3] }
  | _ => none }
def inferPartsRow : OpenClaim := { program := "ytpoljomhfcmdoaa", sum := "87a376bd36b4f4861bf82b552c85ddb383d0c10924689817a5caee873a2c03e6", func := "jetsam/jetsamlaw17.InferParts", spec := "inferParts", unfollowed := true, recurses := true, plainKeys := false, apart := false }
def InferPartsSaid : Prop := inferPartsRow.holds Try.pinned (OpenSpec.ofChange inferPartsSpec)

/-- ITS FALSE NEIGHBOUR: 'it returns false'. Refute it at one input. -/
def inferPartsWrong : ChangeSpec := { name := "inferParts", fn := fun _ => fun
  | [d1, d2, d3] => { results := [.lit (.bool false)], args := [d1, d2, d3] }
  | _ => none }
def InferPartsWrongFalsely : Prop := inferPartsRow.holds Try.pinned (OpenSpec.ofChange inferPartsWrong)

/-- 'jetsamlaw17.InferTwice': WHATEVER THE INPUT: true; the input reads as it did. -/
def inferTwiceSpec : ChangeSpec := { name := "inferTwice", fn := fun _ => fun
  | [d1, d2] => { results := [.lit (.bool true)], args := [d1, d2] }
  | _ => none }
def inferTwiceRow : OpenClaim := { program := "ytpoljomhfcmdoaa", sum := "87a376bd36b4f4861bf82b552c85ddb383d0c10924689817a5caee873a2c03e6", func := "jetsam/jetsamlaw17.InferTwice", spec := "inferTwice", unfollowed := true, recurses := true, plainKeys := false, apart := false }
def InferTwiceSaid : Prop := inferTwiceRow.holds Try.pinned (OpenSpec.ofChange inferTwiceSpec)

/-- ITS FALSE NEIGHBOUR: 'it returns false'. Refute it at one input. -/
def inferTwiceWrong : ChangeSpec := { name := "inferTwice", fn := fun _ => fun
  | [d1, d2] => { results := [.lit (.bool false)], args := [d1, d2] }
  | _ => none }
def InferTwiceWrongFalsely : Prop := inferTwiceRow.holds Try.pinned (OpenSpec.ofChange inferTwiceWrong)

/-- 'jetsamlaw17.InferWhere': WHATEVER THE INPUT: true; the input reads as it did. -/
def inferWhereSpec : ChangeSpec := { name := "inferWhere", fn := fun _ => fun
  | [d1, d2] => { results := [.lit (.bool true)], args := [d1, d2] }
  | _ => none }
def inferWhereRow : OpenClaim := { program := "ytpoljomhfcmdoaa", sum := "87a376bd36b4f4861bf82b552c85ddb383d0c10924689817a5caee873a2c03e6", func := "jetsam/jetsamlaw17.InferWhere", spec := "inferWhere", unfollowed := true, recurses := true, plainKeys := false, apart := false }
def InferWhereSaid : Prop := inferWhereRow.holds Try.pinned (OpenSpec.ofChange inferWhereSpec)

/-- ITS FALSE NEIGHBOUR: 'it returns false'. Refute it at one input. -/
def inferWhereWrong : ChangeSpec := { name := "inferWhere", fn := fun _ => fun
  | [d1, d2] => { results := [.lit (.bool false)], args := [d1, d2] }
  | _ => none }
def InferWhereWrongFalsely : Prop := inferWhereRow.holds Try.pinned (OpenSpec.ofChange inferWhereWrong)

/-- 'jetsamlaw17.InferVotes': WHATEVER THE INPUT: true; the input reads as it did. -/
def inferVotesSpec : ChangeSpec := { name := "inferVotes", fn := fun _ => fun
  | [d] => { results := [.lit (.bool true)], args := [d] }
  | _ => none }
def inferVotesRow : OpenClaim := { program := "ytpoljomhfcmdoaa", sum := "87a376bd36b4f4861bf82b552c85ddb383d0c10924689817a5caee873a2c03e6", func := "jetsam/jetsamlaw17.InferVotes", spec := "inferVotes", unfollowed := true, recurses := true, plainKeys := false, apart := false }
def InferVotesSaid : Prop := inferVotesRow.holds Try.pinned (OpenSpec.ofChange inferVotesSpec)

/-- ITS FALSE NEIGHBOUR: 'it returns false'. Refute it at one input. -/
def inferVotesWrong : ChangeSpec := { name := "inferVotes", fn := fun _ => fun
  | [d] => { results := [.lit (.bool false)], args := [d] }
  | _ => none }
def InferVotesWrongFalsely : Prop := inferVotesRow.holds Try.pinned (OpenSpec.ofChange inferVotesWrong)

/-- 'jetsamlaw17.InferTrusts': WHATEVER THE INPUT: true; the input reads as it did. -/
def inferTrustsSpec : ChangeSpec := { name := "inferTrusts", fn := fun _ => fun
  | [d1, d2, d3] => { results := [.lit (.bool true)], args := [d1, d2, d3] }
  | _ => none }
def inferTrustsRow : OpenClaim := { program := "ytpoljomhfcmdoaa", sum := "87a376bd36b4f4861bf82b552c85ddb383d0c10924689817a5caee873a2c03e6", func := "jetsam/jetsamlaw17.InferTrusts", spec := "inferTrusts", unfollowed := true, recurses := true, plainKeys := false, apart := false }
def InferTrustsSaid : Prop := inferTrustsRow.holds Try.pinned (OpenSpec.ofChange inferTrustsSpec)

/-- ITS FALSE NEIGHBOUR: 'it returns false'. Refute it at one input. -/
def inferTrustsWrong : ChangeSpec := { name := "inferTrusts", fn := fun _ => fun
  | [d1, d2, d3] => { results := [.lit (.bool false)], args := [d1, d2, d3] }
  | _ => none }
def InferTrustsWrongFalsely : Prop := inferTrustsRow.holds Try.pinned (OpenSpec.ofChange inferTrustsWrong)

/-- 'jetsamlaw17.InferChain': WHATEVER THE INPUT: true; the input reads as it did. -/
def inferChainSpec : ChangeSpec := { name := "inferChain", fn := fun _ => fun
  | [d1, d2, d3] => { results := [.lit (.bool true)], args := [d1, d2, d3] }
  | _ => none }
def inferChainRow : OpenClaim := { program := "ytpoljomhfcmdoaa", sum := "87a376bd36b4f4861bf82b552c85ddb383d0c10924689817a5caee873a2c03e6", func := "jetsam/jetsamlaw17.InferChain", spec := "inferChain", unfollowed := true, recurses := true, plainKeys := false, apart := false }
def InferChainSaid : Prop := inferChainRow.holds Try.pinned (OpenSpec.ofChange inferChainSpec)

/-- ITS FALSE NEIGHBOUR: 'it returns false'. Refute it at one input. -/
def inferChainWrong : ChangeSpec := { name := "inferChain", fn := fun _ => fun
  | [d1, d2, d3] => { results := [.lit (.bool false)], args := [d1, d2, d3] }
  | _ => none }
def InferChainWrongFalsely : Prop := inferChainRow.holds Try.pinned (OpenSpec.ofChange inferChainWrong)

/- THE SECOND FORM. 'bulk': how many values and letters a reading holds, each counted each time it is reached (what is shared counts as often as it is met; a slice's spare places count too). A statement '..UptoSaid' is the law's where the arguments, and the package variables that the reading takes, are together of bulk at most 1048576: NARROWER than '..Said'. Prove '..Said' where nothing that the law and all that it calls make is longer than what came in: it says more and counts as full. Else prove '..UptoSaid'. A law counts once. -/
mutual
def uptoBulk {H : Type} : DataW H → Nat
  | .lit (.string bytes) => bytes.length + 1
  | .lit _ => 1
  | .nil => 1
  | .ptr d => uptoBulk d + 1
  | .slice elems spare => uptoBulkAll elems + uptoBulkAll spare + 1
  | .agg parts => uptoBulkAll parts + 1
  | .iface _ d => uptoBulk d + 1
  | .map entries => uptoBulkEntries entries + 1
  | .held _ => 1
def uptoBulkAll {H : Type} : List (DataW H) → Nat
  | [] => 0
  | d :: r => uptoBulk d + uptoBulkAll r
def uptoBulkEntries {H : Type} : List (Lit × DataW H) → Nat
  | [] => 0
  | x :: r => uptoBulkEntry x + uptoBulkEntries r
def uptoBulkEntry {H : Type} : Lit × DataW H → Nat
  | (.string bytes, d) => bytes.length + uptoBulk d + 1
  | (_, d) => uptoBulk d + 1
 end
def uptoSmall : (H : Type) → List (DataW H) → Bool := fun _ ds => decide (uptoBulkAll ds ≤ 1048576)
def OpenSpec.upto (s : _root_.Go.ChangeSpec) : _root_.Go.OpenSpec := { _root_.Go.OpenSpec.ofChange s with cond := some uptoSmall }

/-- 'jetsamlaw17.InferParts', WHERE WHAT IT READS IS OF BULK AT MOST 1048576: true; the input reads as it did. -/
def inferPartsUptoRow : OpenClaim := { program := "ytpoljomhfcmdoaa", sum := "87a376bd36b4f4861bf82b552c85ddb383d0c10924689817a5caee873a2c03e6", func := "jetsam/jetsamlaw17.InferParts", spec := "inferParts", unfollowed := true, recurses := true, plainKeys := false, apart := false, narrowed := true }
def InferPartsUptoSaid : Prop := inferPartsUptoRow.holds Try.pinned (OpenSpec.upto inferPartsSpec)

/-- 'jetsamlaw17.InferTwice', WHERE WHAT IT READS IS OF BULK AT MOST 1048576: true; the input reads as it did. -/
def inferTwiceUptoRow : OpenClaim := { program := "ytpoljomhfcmdoaa", sum := "87a376bd36b4f4861bf82b552c85ddb383d0c10924689817a5caee873a2c03e6", func := "jetsam/jetsamlaw17.InferTwice", spec := "inferTwice", unfollowed := true, recurses := true, plainKeys := false, apart := false, narrowed := true }
def InferTwiceUptoSaid : Prop := inferTwiceUptoRow.holds Try.pinned (OpenSpec.upto inferTwiceSpec)

/-- 'jetsamlaw17.InferWhere', WHERE WHAT IT READS IS OF BULK AT MOST 1048576: true; the input reads as it did. -/
def inferWhereUptoRow : OpenClaim := { program := "ytpoljomhfcmdoaa", sum := "87a376bd36b4f4861bf82b552c85ddb383d0c10924689817a5caee873a2c03e6", func := "jetsam/jetsamlaw17.InferWhere", spec := "inferWhere", unfollowed := true, recurses := true, plainKeys := false, apart := false, narrowed := true }
def InferWhereUptoSaid : Prop := inferWhereUptoRow.holds Try.pinned (OpenSpec.upto inferWhereSpec)

/-- 'jetsamlaw17.InferVotes', WHERE WHAT IT READS IS OF BULK AT MOST 1048576: true; the input reads as it did. -/
def inferVotesUptoRow : OpenClaim := { program := "ytpoljomhfcmdoaa", sum := "87a376bd36b4f4861bf82b552c85ddb383d0c10924689817a5caee873a2c03e6", func := "jetsam/jetsamlaw17.InferVotes", spec := "inferVotes", unfollowed := true, recurses := true, plainKeys := false, apart := false, narrowed := true }
def InferVotesUptoSaid : Prop := inferVotesUptoRow.holds Try.pinned (OpenSpec.upto inferVotesSpec)

/-- 'jetsamlaw17.InferTrusts', WHERE WHAT IT READS IS OF BULK AT MOST 1048576: true; the input reads as it did. -/
def inferTrustsUptoRow : OpenClaim := { program := "ytpoljomhfcmdoaa", sum := "87a376bd36b4f4861bf82b552c85ddb383d0c10924689817a5caee873a2c03e6", func := "jetsam/jetsamlaw17.InferTrusts", spec := "inferTrusts", unfollowed := true, recurses := true, plainKeys := false, apart := false, narrowed := true }
def InferTrustsUptoSaid : Prop := inferTrustsUptoRow.holds Try.pinned (OpenSpec.upto inferTrustsSpec)

/-- 'jetsamlaw17.InferChain', WHERE WHAT IT READS IS OF BULK AT MOST 1048576: true; the input reads as it did. -/
def inferChainUptoRow : OpenClaim := { program := "ytpoljomhfcmdoaa", sum := "87a376bd36b4f4861bf82b552c85ddb383d0c10924689817a5caee873a2c03e6", func := "jetsam/jetsamlaw17.InferChain", spec := "inferChain", unfollowed := true, recurses := true, plainKeys := false, apart := false, narrowed := true }
def InferChainUptoSaid : Prop := inferChainUptoRow.holds Try.pinned (OpenSpec.upto inferChainSpec)

end Rows
end Go.Proofs.Ytpoljomhfcmdoaa
