/-
  No cell of these rows narrows 'for every input' (looked for: loops, veiled, ifaces, maps, wideKeys, modest, calm, conditions, laid).
  DERIVED. THE GIVEN ROWS OF THIS SEAT. 5 by the template 'for every input the law returns true; each argument reads behind the call as it read before'; 0 by the template 'total and deterministic' (their statements: YthnbhhifehkggaaTotals.lean).
  GIVEN WITH THE SEED: the statements are not yours to turn. If you find one false, say at which input.
  Laid BY PROGRAM, IN A SANDBOX (cutbox-rows.mjs): the forced cells as the released guide's own fill.sh prints them over the translation 0b8507738af1dcdb… (all of the seat's roots in one cut). By AI agents, Wed Nov 11 2026. No macro, syntax, notation, axiom, sorry.
-/
import Derived.Test.YthnbhhifehkggaaChecked
import GoSem.Claim
import GoSem.ClaimJoined
import GoSem.ClaimMapViews
import Derived.JoinedTies
import Derived.KernelRfl
namespace Go.Proofs.Ythnbhhifehkggaa
/- THE CELL 'sum', in the pinned program and in every row, IS THE sha256 OF THE DUMP (.gsa) THAT YthnbhhifehkggaaProg.lean LOADS. Nothing in Lean hashes anything: it is a label: what it is worth is what the hold of that sum in a sandbox is worth. -/
noncomputable def Try.pinned : Pinned := { name := "ythnbhhifehkggaa", sum := "0b8507738af1dcdbd974ab8f476527b3328b28c958638e40fb681c9e6d10f782", checked := Try.checked }
namespace Rows
def none {H : Type} : Left H := { results := [], args := [] }

/-- 'jetsamlaw15.ChainHeaviest': WHATEVER THE INPUT: true; the input reads as it did. -/
def chainHeaviestSpec : ChangeSpec := { name := "chainHeaviest", fn := fun _ => fun
  | [d1, d2] => { results := [.lit (.bool true)], args := [d1, d2] }
  | _ => none }
def chainHeaviestRow : OpenClaim := { program := "ythnbhhifehkggaa", sum := "0b8507738af1dcdbd974ab8f476527b3328b28c958638e40fb681c9e6d10f782", func := "jetsam/jetsamlaw15.ChainHeaviest", spec := "chainHeaviest", unfollowed := true, recurses := true, apart := false }
def ChainHeaviestSaid : Prop := chainHeaviestRow.holds Try.pinned (OpenSpec.ofChange chainHeaviestSpec)

/-- ITS FALSE NEIGHBOUR: 'it returns false'. Refute it at one input. -/
def chainHeaviestWrong : ChangeSpec := { name := "chainHeaviest", fn := fun _ => fun
  | [d1, d2] => { results := [.lit (.bool false)], args := [d1, d2] }
  | _ => none }
def ChainHeaviestWrongFalsely : Prop := chainHeaviestRow.holds Try.pinned (OpenSpec.ofChange chainHeaviestWrong)

/-- 'jetsamlaw15.ChainBest': WHATEVER THE INPUT: true; the input reads as it did. -/
def chainBestSpec : ChangeSpec := { name := "chainBest", fn := fun _ => fun
  | [d] => { results := [.lit (.bool true)], args := [d] }
  | _ => none }
def chainBestRow : OpenClaim := { program := "ythnbhhifehkggaa", sum := "0b8507738af1dcdbd974ab8f476527b3328b28c958638e40fb681c9e6d10f782", func := "jetsam/jetsamlaw15.ChainBest", spec := "chainBest", unfollowed := true, recurses := true, apart := false }
def ChainBestSaid : Prop := chainBestRow.holds Try.pinned (OpenSpec.ofChange chainBestSpec)

/-- ITS FALSE NEIGHBOUR: 'it returns false'. Refute it at one input. -/
def chainBestWrong : ChangeSpec := { name := "chainBest", fn := fun _ => fun
  | [d] => { results := [.lit (.bool false)], args := [d] }
  | _ => none }
def ChainBestWrongFalsely : Prop := chainBestRow.holds Try.pinned (OpenSpec.ofChange chainBestWrong)

/-- 'jetsamlaw15.ChainTurns': WHATEVER THE INPUT: true; the input reads as it did. -/
def chainTurnsSpec : ChangeSpec := { name := "chainTurns", fn := fun _ => fun
  | [d1, d2] => { results := [.lit (.bool true)], args := [d1, d2] }
  | _ => none }
def chainTurnsRow : OpenClaim := { program := "ythnbhhifehkggaa", sum := "0b8507738af1dcdbd974ab8f476527b3328b28c958638e40fb681c9e6d10f782", func := "jetsam/jetsamlaw15.ChainTurns", spec := "chainTurns", unfollowed := true, recurses := true, apart := false }
def ChainTurnsSaid : Prop := chainTurnsRow.holds Try.pinned (OpenSpec.ofChange chainTurnsSpec)

/-- ITS FALSE NEIGHBOUR: 'it returns false'. Refute it at one input. -/
def chainTurnsWrong : ChangeSpec := { name := "chainTurns", fn := fun _ => fun
  | [d1, d2] => { results := [.lit (.bool false)], args := [d1, d2] }
  | _ => none }
def ChainTurnsWrongFalsely : Prop := chainTurnsRow.holds Try.pinned (OpenSpec.ofChange chainTurnsWrong)

/-- 'jetsamlaw15.ChainMore': WHATEVER THE INPUT: true; the input reads as it did. -/
def chainMoreSpec : ChangeSpec := { name := "chainMore", fn := fun _ => fun
  | [d1, d2] => { results := [.lit (.bool true)], args := [d1, d2] }
  | _ => none }
def chainMoreRow : OpenClaim := { program := "ythnbhhifehkggaa", sum := "0b8507738af1dcdbd974ab8f476527b3328b28c958638e40fb681c9e6d10f782", func := "jetsam/jetsamlaw15.ChainMore", spec := "chainMore", unfollowed := true, recurses := true, apart := false }
def ChainMoreSaid : Prop := chainMoreRow.holds Try.pinned (OpenSpec.ofChange chainMoreSpec)

/-- ITS FALSE NEIGHBOUR: 'it returns false'. Refute it at one input. -/
def chainMoreWrong : ChangeSpec := { name := "chainMore", fn := fun _ => fun
  | [d1, d2] => { results := [.lit (.bool false)], args := [d1, d2] }
  | _ => none }
def ChainMoreWrongFalsely : Prop := chainMoreRow.holds Try.pinned (OpenSpec.ofChange chainMoreWrong)

/-- 'jetsamlaw15.ChainBound': WHATEVER THE INPUT: true; the input reads as it did. -/
def chainBoundSpec : ChangeSpec := { name := "chainBound", fn := fun _ => fun
  | [d1, d2, d3] => { results := [.lit (.bool true)], args := [d1, d2, d3] }
  | _ => none }
def chainBoundRow : OpenClaim := { program := "ythnbhhifehkggaa", sum := "0b8507738af1dcdbd974ab8f476527b3328b28c958638e40fb681c9e6d10f782", func := "jetsam/jetsamlaw15.ChainBound", spec := "chainBound", unfollowed := true, recurses := true, apart := false }
def ChainBoundSaid : Prop := chainBoundRow.holds Try.pinned (OpenSpec.ofChange chainBoundSpec)

/-- ITS FALSE NEIGHBOUR: 'it returns false'. Refute it at one input. -/
def chainBoundWrong : ChangeSpec := { name := "chainBound", fn := fun _ => fun
  | [d1, d2, d3] => { results := [.lit (.bool false)], args := [d1, d2, d3] }
  | _ => none }
def ChainBoundWrongFalsely : Prop := chainBoundRow.holds Try.pinned (OpenSpec.ofChange chainBoundWrong)

/- THE SECOND FORM. 'bulk': how many values and letters a reading holds, each counted each time it is reached (what is shared counts as often as it is met; a slice's spare places count too). A statement '..UptoSaid' is the law's where the arguments, and the package variables that the reading takes, are together of bulk at most 1048576: NARROWER than '..Said'. Prove '..Said' where nothing that the law and all that it calls make is longer than what came in: it says more and counts as full. Else prove '..UptoSaid'. A law counts once. -/
mutual
def uptoBulk {H : Type} : DataW H → Nat
  | .lit (.string bytes) => bytes.length + 1
  | .lit _ => 1
  | .nil => 1
  | .ptr d => uptoBulk d + 1
  | .slice elems spare => uptoBulkAll elems + uptoBulkAll spare + 1
  | .agg parts => uptoBulkAll parts + 1
  | .iface _ d => uptoBulk d + 1
  | .map entries => uptoBulkEntries entries + 1
  | .held _ => 1
def uptoBulkAll {H : Type} : List (DataW H) → Nat
  | [] => 0
  | d :: r => uptoBulk d + uptoBulkAll r
def uptoBulkEntries {H : Type} : List (Lit × DataW H) → Nat
  | [] => 0
  | x :: r => uptoBulkEntry x + uptoBulkEntries r
def uptoBulkEntry {H : Type} : Lit × DataW H → Nat
  | (.string bytes, d) => bytes.length + uptoBulk d + 1
  | (_, d) => uptoBulk d + 1
 end
def uptoSmall : (H : Type) → List (DataW H) → Bool := fun _ ds => decide (uptoBulkAll ds ≤ 1048576)
def OpenSpec.upto (s : _root_.Go.ChangeSpec) : _root_.Go.OpenSpec := { _root_.Go.OpenSpec.ofChange s with cond := some uptoSmall }

/-- 'jetsamlaw15.ChainHeaviest', WHERE WHAT IT READS IS OF BULK AT MOST 1048576: true; the input reads as it did. -/
def chainHeaviestUptoRow : OpenClaim := { program := "ythnbhhifehkggaa", sum := "0b8507738af1dcdbd974ab8f476527b3328b28c958638e40fb681c9e6d10f782", func := "jetsam/jetsamlaw15.ChainHeaviest", spec := "chainHeaviest", unfollowed := true, recurses := true, apart := false, narrowed := true }
def ChainHeaviestUptoSaid : Prop := chainHeaviestUptoRow.holds Try.pinned (OpenSpec.upto chainHeaviestSpec)

/-- 'jetsamlaw15.ChainBest', WHERE WHAT IT READS IS OF BULK AT MOST 1048576: true; the input reads as it did. -/
def chainBestUptoRow : OpenClaim := { program := "ythnbhhifehkggaa", sum := "0b8507738af1dcdbd974ab8f476527b3328b28c958638e40fb681c9e6d10f782", func := "jetsam/jetsamlaw15.ChainBest", spec := "chainBest", unfollowed := true, recurses := true, apart := false, narrowed := true }
def ChainBestUptoSaid : Prop := chainBestUptoRow.holds Try.pinned (OpenSpec.upto chainBestSpec)

/-- 'jetsamlaw15.ChainTurns', WHERE WHAT IT READS IS OF BULK AT MOST 1048576: true; the input reads as it did. -/
def chainTurnsUptoRow : OpenClaim := { program := "ythnbhhifehkggaa", sum := "0b8507738af1dcdbd974ab8f476527b3328b28c958638e40fb681c9e6d10f782", func := "jetsam/jetsamlaw15.ChainTurns", spec := "chainTurns", unfollowed := true, recurses := true, apart := false, narrowed := true }
def ChainTurnsUptoSaid : Prop := chainTurnsUptoRow.holds Try.pinned (OpenSpec.upto chainTurnsSpec)

/-- 'jetsamlaw15.ChainMore', WHERE WHAT IT READS IS OF BULK AT MOST 1048576: true; the input reads as it did. -/
def chainMoreUptoRow : OpenClaim := { program := "ythnbhhifehkggaa", sum := "0b8507738af1dcdbd974ab8f476527b3328b28c958638e40fb681c9e6d10f782", func := "jetsam/jetsamlaw15.ChainMore", spec := "chainMore", unfollowed := true, recurses := true, apart := false, narrowed := true }
def ChainMoreUptoSaid : Prop := chainMoreUptoRow.holds Try.pinned (OpenSpec.upto chainMoreSpec)

/-- 'jetsamlaw15.ChainBound', WHERE WHAT IT READS IS OF BULK AT MOST 1048576: true; the input reads as it did. -/
def chainBoundUptoRow : OpenClaim := { program := "ythnbhhifehkggaa", sum := "0b8507738af1dcdbd974ab8f476527b3328b28c958638e40fb681c9e6d10f782", func := "jetsam/jetsamlaw15.ChainBound", spec := "chainBound", unfollowed := true, recurses := true, apart := false, narrowed := true }
def ChainBoundUptoSaid : Prop := chainBoundUptoRow.holds Try.pinned (OpenSpec.upto chainBoundSpec)

end Rows
end Go.Proofs.Ythnbhhifehkggaa
