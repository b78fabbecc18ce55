/- The iterator is made. -/
import Derived.Test.YtnapnedfhimikaaDoorK2
import Derived.Test.YtnapnedfhimikaaDoorVhR
import Derived.Test.YtnapnedfhimikaaDoorProg
set_option maxRecDepth 4000
set_option linter.all false
set_option linter.unusedVariables false
set_option linter.unusedSimpArgs false
namespace Go.Proofs.YtnapnedfhimikaaDoor
open Go Go.Vg
theorem K_mixed : Tryd.prog.follows .mixedOrders = true := by kernel_rfl
def Tm_chunk : Tab := [(3, ⟨.int .i64, 1, 8, [.int .i64 (.lit 0)]⟩), (5, ⟨.int .u8, 1, 1, [.int .u8 (.lit 0)]⟩), (29, ⟨.slice 5, 1, 24, [.nilsl]⟩)]
theorem Tm_chunk_ok : TabOk Tryd.prog Tm_chunk := by
  have h : Tm_chunk = tabOf Tryd.prog [3, 5, 29] := by kernel_rfl
  rw [h]; exact tabOk_of (by kernel_rfl)
theorem m_chunk {l : List Int} {n : Int} {r : List (List Int)} (h : chunkF l n = some r) : ACalls Tryd.prog [] 21 [e_sl 1 e_u8 l, e_i64 n] [] (fun x o' => x = .fn 27 [] [.rptr [e_sl 1 e_u8 l], .rptr [e_i64 n]] ∧ o' = []) := by
  have hn : 1 ≤ n := by
    unfold chunkF at h
    split at h
    · rename_i hc; exact hc.1
    · cases h
  refine acalls_of (c := ⟨Tm_chunk, [], 9, [], []⟩) Tryd.func21 (by kernel_rfl) rfl rfl rfl Tm_chunk_ok (eqsOk_of (by kernel_rfl)) K_mixed rfl rfl rfl fun P hP _ => ?_
  conv => cbv
  refine ⟨fun h1 => ?_, fun _ => ?_⟩
  · simp only [BE.den, IE.den] at h1
    exact absurd (of_decide_eq_true h1) (by omega)
  conv => cbv
  refine .box 2 _ rfl rfl rfl ?_
  conv => cbv
  refine .box 3 _ rfl rfl rfl ?_
  conv => cbv
  refine .mk [] [] rfl rfl ?_ ?_
  · conv => cbv
    trivial
  · conv => cbv
    exact .cons _ _ _ _ (.same _) .nil
end Go.Proofs.YtnapnedfhimikaaDoor
