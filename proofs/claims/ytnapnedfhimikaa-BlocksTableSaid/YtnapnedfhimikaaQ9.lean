/- What is known of inputs: bytes are bytes, numbers are of 64 bits. -/
import Derived.Test.YtnapnedfhimikaaQ8
import Derived.Test.YtnapnedfhimikaaM2
set_option maxRecDepth 4000
set_option linter.all false
set_option linter.unusedVariables false
set_option linter.unusedSimpArgs false
namespace Go.Vg
open Go
theorem blk_isB {l : List shBlock.T} (h : V.wf (Sh.val (.sl shBlock) l)) : ∀ b, b ∈ l.map mkBlock → ∀ x, x ∈ b.Data → isB x := fun b hb => by
  obtain ⟨p, hp, rfl⟩ := List.mem_map.1 hb
  have h : l.length ≤ LIM ∧ ∀ p, p ∈ l → V.wf (Sh.val shBlock p) := h
  have h2 : V.wf _ ∧ V.wf (Sh.val (.sl (.int .u8)) p.2) ∧ True := h.2 p hp
  exact isB_of h2.2.1
theorem pts64 {l : List shPoint.T} (h : V.wf (Sh.val (.sl shPoint) l)) : ∀ p, p ∈ l.map mkPoint → p.Sample ≤ 9223372036854775807 ∧ p.Offset ≤ 9223372036854775807 := fun b hb => by
  obtain ⟨p, hp, rfl⟩ := List.mem_map.1 hb
  have h : l.length ≤ LIM ∧ ∀ p, p ∈ l → V.wf (Sh.val shPoint p) := h
  have h2 : IntKind.i64.has p.1 ∧ IntKind.i64.has p.2.1 ∧ IntKind.i64.has p.2.2 ∧ True := h.2 p hp
  have h3 := (has_iff _ _).1 h2.1
  have h4 := (has_iff _ _).1 h2.2.1
  exact ⟨h3.2, h4.2⟩
end Go.Vg
