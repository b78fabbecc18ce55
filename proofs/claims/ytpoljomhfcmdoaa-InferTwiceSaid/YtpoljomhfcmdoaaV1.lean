/- That the code answers so, printed by a program. -/
import Derived.Test.YtpoljomhfcmdoaaF1
import Derived.Test.YtpoljomhfcmdoaaSl
import Derived.Test.YtpoljomhfcmdoaaC1
import Derived.Shelf.SlSortCmp.NoneTotal
import Derived.Test.YtpoljomhfcmdoaaProg
set_option maxRecDepth 4000
set_option linter.all false
set_option linter.unusedVariables false
set_option linter.unusedSimpArgs false
namespace Go.Proofs.Ytpoljomhfcmdoaa
open Go Go.Vg
theorem Try_mixed : Try.prog.follows .mixedOrders = true := by kernel_rfl
def Tw_slices_Clone_sinfer_Range_infer_Range : Tab := [(22, ⟨.slice 25, 1, 24, [.nilsl]⟩), (25, ⟨.struct [(0, 3), (1, 3)], 2, 16, [.int .i64 (.lit 0), .int .i64 (.lit 0)]⟩)]
theorem Tw_slices_Clone_sinfer_Range_infer_Range_ok : TabOk Try.prog Tw_slices_Clone_sinfer_Range_infer_Range := by
  have h : Tw_slices_Clone_sinfer_Range_infer_Range = tabOf Try.prog [22, 25] := by kernel_rfl
  rw [h]; exact tabOk_of (by kernel_rfl)
theorem w_slices_Clone_sinfer_Range_infer_Range {y0 : List infer_Range} {r : List infer_Range} (h : slices_Clone_sinfer_Range_infer_Range y0 = some r) : ACalls Try.prog [] 24 [(e_sl 2 e_infer_Range) y0] [] (fun x o' => x = .osl 20000 ∧ o' = [(20000, .arr false 25 2 e_infer_Range r)]) := by
  refine acalls_of (c := ⟨Tw_slices_Clone_sinfer_Range_infer_Range, [], 8, [], []⟩) Try.func24 (by kernel_rfl) rfl rfl rfl Tw_slices_Clone_sinfer_Range_infer_Range_ok (eqsOk_of (by kernel_rfl)) Try_mixed rfl rfl rfl fun P hP _ => ?_
  unfold slices_Clone_sinfer_Range_infer_Range at h
  conv => cbv
  refine den_nil h (fun h hl => ?_) (fun h => ?_)
  · replace h : (some []) = some r := by
      simp only [hl] at h
      simpa [app] using h
    conv => cbv
    cases h
    refine .add 9999 25 2 e_infer_Range rfl rfl ?_
    refine .mk [(9999, 20000, false)] [] rfl rfl ?_ ?_
    · conv => cbv
      exact ⟨.arr _ _ _ _ _ _ rfl, trivial⟩
    · conv => cbv
      exact .cons _ _ _ _ (.own _ _ _ _ _ _ rfl rfl) .nil
  · conv => cbv
    refine .own e_infer_Range ?_
    conv => cbv
    refine den_app_own e_infer_Range (xs := y0) h rfl (News.map rfl) fun l1 _ h => ?_
    conv => cbv
    cases h
    refine .mk [(5, 20000, false)] [] rfl rfl ?_ ?_
    · conv => cbv
      exact ⟨.arr _ _ _ _ _ _ rfl, trivial⟩
    · conv => cbv
      exact .cons _ _ _ _ (.same _) .nil
def T_slices_IndexFunc_sinfer_Range_infer_Range : Tab := [(22, ⟨.slice 25, 1, 24, [.nilsl]⟩), (25, ⟨.struct [(0, 3), (1, 3)], 2, 16, [.int .i64 (.lit 0), .int .i64 (.lit 0)]⟩)]
theorem T_slices_IndexFunc_sinfer_Range_infer_Range_ok : TabOk Try.prog T_slices_IndexFunc_sinfer_Range_infer_Range := by
  have h : T_slices_IndexFunc_sinfer_Range_infer_Range = tabOf Try.prog [22, 25] := by kernel_rfl
  rw [h]; exact tabOk_of (by kernel_rfl)
theorem v_slices_IndexFunc_sinfer_Range_infer_Range {y0 : List infer_Range} {g1 : infer_Range → Option Bool} (fid1 : Nat) (hg1 : ∀ z0 r, g1 z0 = some r → AVal Try.prog [] fid1 [e_infer_Range z0] (e_bool r)) {r : Int} (h : slices_IndexFunc_sinfer_Range_infer_Range y0 g1 = some r) : AVal Try.prog [] 32 [(e_sl 2 e_infer_Range) y0, (.fn fid1 [] [])] (e_i64 r) := by
  refine aval_of (c := ⟨T_slices_IndexFunc_sinfer_Range_infer_Range, [], 19, [], []⟩) Try.func32 (by kernel_rfl) rfl rfl rfl T_slices_IndexFunc_sinfer_Range_infer_Range_ok (eqsOk_of (by kernel_rfl)) Try_mixed rfl fun P hP _ => ?_
  unfold slices_IndexFunc_sinfer_Range_infer_Range at h
  conv => cbv
  refine den_cut (r := r) (fun j1 : Unit => ⟨[], [], []⟩) slices_IndexFunc_sinfer_Range_infer_Range_K1 ?_ (fun j1 h => ?_)
  · conv => cbv
    refine den_loop (slices_IndexFunc_sinfer_Range_infer_Range_L1 y0 g1) h (fun a2 : Int => ⟨[(0, .sl 2 e_infer_Range y0), (1, .fn fid1 [] []), (7, .int .i64 (.len y0)), (8, .int .i64 (.v a2))], [], []⟩) ?_ (fun _ _ a2 x1 h hb1 hx1 => ?_)
    · intro j0 hj
      conv => cbv
      subst hj
      exact ⟨.same _, .same _, .same _, .int _ _ _ rfl, trivial⟩
    · unfold slices_IndexFunc_sinfer_Range_infer_Range_L1 at h
      conv => cbv
      refine den_br h (fun _ h => ?_) (fun _ h => ?_)
      · conv => cbv
        refine .mk ?_
        conv => cbv
        refine den_elem h fun p3 _ h => ?_
        conv => cbv
        refine den_call e_bool [e_infer_Range p3] h (fun _ h => hP ▸ hg1 _ _ h) (.cons _ _ _ _ (.same _) .nil) rfl rfl (fun _ => rfl) fun r4 _ h => ?_
        conv => cbv
        refine den_br h (fun _ h => ?_) (fun _ h => ?_)
        · conv => cbv
          replace h := den_out h hx1
          cases h
          exact .same _
        · conv => cbv
          refine den_back h hb1 fun j0 hj => ?_
          conv => cbv
          subst hj
          exact ⟨.same _, .same _, .same _, .int _ _ _ rfl, trivial⟩
      · conv => cbv
        replace h := den_out h hx1
        refine den_join h fun j0 hj => ?_
        conv => cbv
        subst hj
        exact trivial
  · unfold slices_IndexFunc_sinfer_Range_infer_Range_K1 at h
    conv => cbv
    cases h
    exact .int _ _ _ rfl
def Tw_slices_DeleteFunc_sinfer_Range_infer_Range : Tab := [(22, ⟨.slice 25, 1, 24, [.nilsl]⟩), (25, ⟨.struct [(0, 3), (1, 3)], 2, 16, [.int .i64 (.lit 0), .int .i64 (.lit 0)]⟩)]
theorem Tw_slices_DeleteFunc_sinfer_Range_infer_Range_ok : TabOk Try.prog Tw_slices_DeleteFunc_sinfer_Range_infer_Range := by
  have h : Tw_slices_DeleteFunc_sinfer_Range_infer_Range = tabOf Try.prog [22, 25] := by kernel_rfl
  rw [h]; exact tabOk_of (by kernel_rfl)
theorem w_slices_DeleteFunc_sinfer_Range_infer_Range {y0 : List infer_Range} {g1 : infer_Range → Option Bool} (fid1 : Nat) (hg1 : ∀ z0 r, g1 z0 = some r → AVal Try.prog [] fid1 [e_infer_Range z0] (e_bool r)) {r : List infer_Range} (h : slices_DeleteFunc_sinfer_Range_infer_Range y0 g1 = some r) : ACalls Try.prog [] 23 [.osl 10000, (.fn fid1 [] [])] [(10000, .arr false 25 2 e_infer_Range y0)] (fun x o' => x = .osl 10000 ∧ o' = [(10000, .arr false 25 2 e_infer_Range r)]) := by
  refine acalls_of (c := ⟨Tw_slices_DeleteFunc_sinfer_Range_infer_Range, [], 42, [], []⟩) Try.func23 (by kernel_rfl) rfl rfl rfl Tw_slices_DeleteFunc_sinfer_Range_infer_Range_ok (eqsOk_of (by kernel_rfl)) Try_mixed rfl rfl rfl fun P hP _ => ?_
  unfold slices_DeleteFunc_sinfer_Range_infer_Range at h
  conv => cbv
  refine den_lend e_i64 [(e_sl 2 e_infer_Range) y0, .fn fid1 [] []] h (fun _ h => hP ▸ v_slices_IndexFunc_sinfer_Range_infer_Range _ hg1 h) (.cons _ _ _ _ (.same _) (.cons _ _ _ _ (.same _) .nil)) (fun _ => rfl) fun r1 _ h => ?_
  conv => cbv
  refine den_br h (fun _ h => ?_) (fun _ h => ?_)
  · conv => cbv
    cases h
    refine .mk [(10000, 10000, false)] [] rfl rfl ?_ ?_
    · conv => cbv
      exact ⟨.same _, trivial⟩
    · conv => cbv
      exact .cons _ _ _ _ (.same _) .nil
  · conv => cbv
    refine den_cut (r := r) (fun j2 : Int × (List infer_Range) => ⟨[(0, .osl 10000), (5, .int .i64 (.v j2.1))], [(10000, .arr false 25 2 e_infer_Range j2.2)], []⟩) slices_DeleteFunc_sinfer_Range_infer_Range_K1 ?_ (fun j2 h => ?_)
    · conv => cbv
      refine den_loop (slices_DeleteFunc_sinfer_Range_infer_Range_L1 g1) h (fun a7 : Int × Int × (List infer_Range) => ⟨[(0, .osl 10000), (1, .fn fid1 [] []), (5, .int .i64 (.v a7.1)), (6, .int .i64 (.v a7.2.1))], [(10000, .arr false 25 2 e_infer_Range a7.2.2)], []⟩) ?_ (fun _ _ a7 x1 h hb1 hx1 => ?_)
      · intro j0 hj
        conv => cbv
        subst hj
        exact ⟨⟨.arr _ _ _ _ _ _ rfl, trivial⟩, .same _, .same _, .int _ _ _ rfl, .int _ _ _ rfl, trivial⟩
      · unfold slices_DeleteFunc_sinfer_Range_infer_Range_L1 at h
        conv => cbv
        refine den_br h (fun _ h => ?_) (fun _ h => ?_)
        · conv => cbv
          refine den_cut (r := x1) (fun j8 : Int × (List infer_Range) => ⟨[(0, .osl 10000), (1, .fn fid1 [] []), (5, .int .i64 (.v j8.1)), (6, .int .i64 (.v a7.2.1))], [(10000, .arr false 25 2 e_infer_Range j8.2)], []⟩) (slices_DeleteFunc_sinfer_Range_infer_Range_K2 a7) ?_ (fun j8 h => ?_)
          · conv => cbv
            refine .mk ?_
            conv => cbv
            refine den_chk h fun h => ?_
            conv => cbv
            refine den_chk h fun h => ?_
            conv => cbv
            refine den_eload h fun p9 _ h => ?_
            conv => cbv
            refine den_call e_bool [e_infer_Range p9] h (fun _ h => hP ▸ hg1 _ _ h) (.cons _ _ _ _ (.same _) .nil) rfl rfl (fun _ => rfl) fun r10 _ h => ?_
            conv => cbv
            refine den_br h (fun _ h => ?_) (fun _ h => ?_)
            · conv => cbv
              refine den_chk h fun h => ?_
              conv => cbv
              refine den_chk h fun h => ?_
              conv => cbv
              refine den_estore (f := e_infer_Range) p9 h (fun _ => CEqL.of_lepl (.cons _ _ _ _ (.same _) (.cons _ _ _ _ (.same _) .nil)) rfl) fun l11 _ h => ?_
              conv => cbv
              refine den_join h fun j0 hj => ?_
              conv => cbv
              subst hj
              exact ⟨⟨.arr _ _ _ _ _ _ rfl, trivial⟩, .same _, .same _, .int _ _ _ rfl, .same _, trivial⟩
            · conv => cbv
              refine den_join h fun j0 hj => ?_
              conv => cbv
              subst hj
              exact ⟨⟨.arr _ _ _ _ _ _ rfl, trivial⟩, .same _, .same _, .int _ _ _ rfl, .same _, trivial⟩
          · unfold slices_DeleteFunc_sinfer_Range_infer_Range_K2 at h
            conv => cbv
            refine den_back h hb1 fun j0 hj => ?_
            conv => cbv
            subst hj
            exact ⟨⟨.arr _ _ _ _ _ _ rfl, trivial⟩, .same _, .same _, .int _ _ _ rfl, .int _ _ _ rfl, trivial⟩
        · conv => cbv
          replace h := den_out h hx1
          refine den_join h fun j0 hj => ?_
          conv => cbv
          subst hj
          exact ⟨⟨.arr _ _ _ _ _ _ rfl, trivial⟩, .same _, .int _ _ _ rfl, trivial⟩
    · unfold slices_DeleteFunc_sinfer_Range_infer_Range_K1 at h
      conv => cbv
      refine den_subo_v h fun l3 il3 ml3 hil3 hml3 _ h => ?_
      conv => cbv
      subst hil3
      subst hml3
      refine den_clear e_infer_Range j2.1 ((j2.2.length : Int) - j2.1) (⟨(0 : Int), (0 : Int)⟩ : infer_Range) h rfl (.inr ⟨_, _, rfl, rfl, rfl⟩) (CEqL.of_lepl (.cons _ _ _ _ (.int _ _ _ rfl) (.cons _ _ _ _ (.int _ _ _ rfl) .nil)) rfl) (fun h => ?_) (fun l4 _ h => ?_)
      · conv => cbv
        refine den_subo_t h rfl fun l5 _ h => ?_
        conv => cbv
        cases h
        refine .mk [(10000, 10000, false)] [] rfl rfl ?_ ?_
        · conv => cbv
          exact ⟨.same _, trivial⟩
        · conv => cbv
          exact .cons _ _ _ _ (.same _) .nil
      · conv => cbv
        refine den_subo_t h rfl fun l6 _ h => ?_
        conv => cbv
        cases h
        refine .mk [(10000, 10000, false)] [] rfl rfl ?_ ?_
        · conv => cbv
          exact ⟨.same _, trivial⟩
        · conv => cbv
          exact .cons _ _ _ _ (.same _) .nil
def T_infer_Range_Len : Tab := [(3, ⟨.int .i64, 1, 8, [.int .i64 (.lit 0)]⟩), (25, ⟨.struct [(0, 3), (1, 3)], 2, 16, [.int .i64 (.lit 0), .int .i64 (.lit 0)]⟩)]
theorem T_infer_Range_Len_ok : TabOk Try.prog T_infer_Range_Len := by
  have h : T_infer_Range_Len = tabOf Try.prog [3, 25] := by kernel_rfl
  rw [h]; exact tabOk_of (by kernel_rfl)
theorem v_infer_Range_Len {y0 : infer_Range} {r : Int} (h : infer_Range_Len y0 = some r) : AVal Try.prog [] 14 [e_infer_Range y0] (e_i64 r) := by
  refine aval_of (c := ⟨T_infer_Range_Len, [], 9, [], []⟩) Try.func14 (by kernel_rfl) rfl rfl rfl T_infer_Range_Len_ok (eqsOk_of (by kernel_rfl)) Try_mixed rfl fun P hP _ => ?_
  unfold infer_Range_Len at h
  conv => cbv
  refine .mk ?_
  conv => cbv
  cases h
  exact .int _ _ _ rfl
def T_infer_Join_c1 : Tab := [(25, ⟨.struct [(0, 3), (1, 3)], 2, 16, [.int .i64 (.lit 0), .int .i64 (.lit 0)]⟩)]
theorem T_infer_Join_c1_ok : TabOk Try.prog T_infer_Join_c1 := by
  have h : T_infer_Join_c1 = tabOf Try.prog [25] := by kernel_rfl
  rw [h]; exact tabOk_of (by kernel_rfl)
theorem v_infer_Join_c1 {y0 : infer_Range} {r : Bool} (h : infer_Join_c1 y0 = some r) : AVal Try.prog [] 25 [e_infer_Range y0] (e_bool r) := by
  refine aval_of (c := ⟨T_infer_Join_c1, [], 6, [], []⟩) Try.func25 (by kernel_rfl) rfl rfl rfl T_infer_Join_c1_ok (eqsOk_of (by kernel_rfl)) Try_mixed rfl fun P hP _ => ?_
  unfold infer_Join_c1 at h
  conv => cbv
  refine den_call e_i64 [e_infer_Range y0] h (fun _ h => hP ▸ v_infer_Range_Len h) (.cons _ _ _ _ (.same _) .nil) rfl rfl (fun _ => rfl) fun r1 _ h => ?_
  conv => cbv
  cases h
  exact .bool _ _ rfl
def T_cmp_isNaN_int : Tab := []
theorem T_cmp_isNaN_int_ok : TabOk Try.prog T_cmp_isNaN_int := by
  have h : T_cmp_isNaN_int = tabOf Try.prog [] := by kernel_rfl
  rw [h]; exact tabOk_of (by kernel_rfl)
theorem v_cmp_isNaN_int {y0 : Int} {r : Bool} (h : cmp_isNaN_int y0 = some r) : AVal Try.prog [] 35 [e_i64 y0] (e_bool r) := by
  refine aval_of (c := ⟨T_cmp_isNaN_int, [], 6, [], []⟩) Try.func35 (by kernel_rfl) rfl rfl rfl T_cmp_isNaN_int_ok (eqsOk_of (by kernel_rfl)) Try_mixed rfl fun P hP _ => ?_
  unfold cmp_isNaN_int at h
  conv => cbv
  cases h
  exact .bool _ _ rfl
def T_cmp_Compare_int : Tab := []
theorem T_cmp_Compare_int_ok : TabOk Try.prog T_cmp_Compare_int := by
  have h : T_cmp_Compare_int = tabOf Try.prog [] := by kernel_rfl
  rw [h]; exact tabOk_of (by kernel_rfl)
theorem v_cmp_Compare_int {y0 : Int} {y1 : Int} {r : Int} (h : cmp_Compare_int y0 y1 = some r) : AVal Try.prog [] 29 [e_i64 y0, e_i64 y1] (e_i64 r) := by
  refine aval_of (c := ⟨T_cmp_Compare_int, [], 20, [], []⟩) Try.func29 (by kernel_rfl) rfl rfl rfl T_cmp_Compare_int_ok (eqsOk_of (by kernel_rfl)) Try_mixed rfl fun P hP _ => ?_
  unfold cmp_Compare_int at h
  conv => cbv
  refine den_call e_bool [e_i64 y0] h (fun _ h => hP ▸ v_cmp_isNaN_int h) (.cons _ _ _ _ (.same _) .nil) rfl rfl (fun _ => rfl) fun r1 _ h => ?_
  conv => cbv
  refine den_call e_bool [e_i64 y1] h (fun _ h => hP ▸ v_cmp_isNaN_int h) (.cons _ _ _ _ (.same _) .nil) rfl rfl (fun _ => rfl) fun r2 _ h => ?_
  conv => cbv
  refine den_br h (fun _ h => ?_) (fun _ h => ?_)
  · conv => cbv
    refine den_br h (fun _ h => ?_) (fun _ h => ?_)
    · conv => cbv
      cases h
      exact .int _ _ _ rfl
    · conv => cbv
      cases h
      exact .int _ _ _ rfl
  · conv => cbv
    refine den_br h (fun _ h => ?_) (fun _ h => ?_)
    · conv => cbv
      cases h
      exact .int _ _ _ rfl
    · conv => cbv
      refine den_br h (fun _ h => ?_) (fun _ h => ?_)
      · conv => cbv
        cases h
        exact .int _ _ _ rfl
      · conv => cbv
        refine den_br h (fun _ h => ?_) (fun _ h => ?_)
        · conv => cbv
          cases h
          exact .int _ _ _ rfl
        · conv => cbv
          cases h
          exact .int _ _ _ rfl
def T_cmp_Or_int : Tab := [(3, ⟨.int .i64, 1, 8, [.int .i64 (.lit 0)]⟩), (48, ⟨.slice 3, 1, 24, [.nilsl]⟩)]
theorem T_cmp_Or_int_ok : TabOk Try.prog T_cmp_Or_int := by
  have h : T_cmp_Or_int = tabOf Try.prog [3, 48] := by kernel_rfl
  rw [h]; exact tabOk_of (by kernel_rfl)
theorem v_cmp_Or_int {y0 : List Int} {r : Int} (h : cmp_Or_int y0 = some r) : AVal Try.prog [] 28 [(e_sl 1 e_i64) y0] (e_i64 r) := by
  refine aval_of (c := ⟨T_cmp_Or_int, [], 18, [], []⟩) Try.func28 (by kernel_rfl) rfl rfl rfl T_cmp_Or_int_ok (eqsOk_of (by kernel_rfl)) Try_mixed rfl fun P hP _ => ?_
  unfold cmp_Or_int at h
  conv => cbv
  refine den_cut (r := r) (fun j1 : Unit => ⟨[(3, .int .i64 (.lit 0))], [], []⟩) cmp_Or_int_K1 ?_ (fun j1 h => ?_)
  · conv => cbv
    refine den_loop (cmp_Or_int_L1 y0) h (fun a2 : Int => ⟨[(3, .int .i64 (.lit 0)), (6, .sl 1 e_i64 y0), (7, .int .i64 (.len y0)), (8, .int .i64 (.v a2))], [], []⟩) ?_ (fun _ _ a2 x1 h hb1 hx1 => ?_)
    · intro j0 hj
      conv => cbv
      subst hj
      exact ⟨.same _, .same _, .same _, .int _ _ _ rfl, trivial⟩
    · unfold cmp_Or_int_L1 at h
      conv => cbv
      refine den_br h (fun _ h => ?_) (fun _ h => ?_)
      · conv => cbv
        refine den_elem h fun p3 _ h => ?_
        conv => cbv
        refine den_br h (fun _ h => ?_) (fun _ h => ?_)
        · conv => cbv
          replace h := den_out h hx1
          cases h
          exact .same _
        · conv => cbv
          refine den_back h hb1 fun j0 hj => ?_
          conv => cbv
          subst hj
          exact ⟨.same _, .same _, .same _, .int _ _ _ rfl, trivial⟩
      · conv => cbv
        replace h := den_out h hx1
        refine den_join h fun j0 hj => ?_
        conv => cbv
        subst hj
        exact ⟨.same _, trivial⟩
  · unfold cmp_Or_int_K1 at h
    conv => cbv
    cases h
    exact .int _ _ _ rfl
def T_infer_Join_c2 : Tab := [(3, ⟨.int .i64, 1, 8, [.int .i64 (.lit 0)]⟩), (25, ⟨.struct [(0, 3), (1, 3)], 2, 16, [.int .i64 (.lit 0), .int .i64 (.lit 0)]⟩), (48, ⟨.slice 3, 1, 24, [.nilsl]⟩)]
theorem T_infer_Join_c2_ok : TabOk Try.prog T_infer_Join_c2 := by
  have h : T_infer_Join_c2 = tabOf Try.prog [3, 25, 48] := by kernel_rfl
  rw [h]; exact tabOk_of (by kernel_rfl)
theorem v_infer_Join_c2 {y0 : infer_Range} {y1 : infer_Range} {r : Int} (h : infer_Join_c2 y0 y1 = some r) : AVal Try.prog [] 27 [e_infer_Range y0, e_infer_Range y1] (e_i64 r) := by
  refine aval_of (c := ⟨T_infer_Join_c2, [], 17, [], []⟩) Try.func27 (by kernel_rfl) rfl rfl rfl T_infer_Join_c2_ok (eqsOk_of (by kernel_rfl)) Try_mixed rfl fun P hP _ => ?_
  unfold infer_Join_c2 at h
  conv => cbv
  refine .mk (by kernel_rfl) ?_
  conv => cbv
  refine .mk ?_
  conv => cbv
  refine den_call e_i64 [e_i64 y0.From, e_i64 y1.From] h (fun _ h => hP ▸ v_cmp_Compare_int h) (.cons _ _ _ _ (.same _) (.cons _ _ _ _ (.same _) .nil)) rfl rfl (fun _ => rfl) fun r1 _ h => ?_
  conv => cbv
  refine den_call e_i64 [e_i64 y0.To, e_i64 y1.To] h (fun _ h => hP ▸ v_cmp_Compare_int h) (.cons _ _ _ _ (.same _) (.cons _ _ _ _ (.same _) .nil)) rfl rfl (fun _ => rfl) fun r2 _ h => ?_
  conv => cbv
  refine .mk ?_
  conv => cbv
  refine den_call e_i64 [(e_sl 1 e_i64) [r1, r2]] h (fun _ h => hP ▸ v_cmp_Or_int h) (.cons _ _ _ _ (.sls (.cons _ _ _ _ (VEq.of_lepl (.cons _ _ _ _ (.same _) .nil) rfl) (.cons _ _ _ _ (VEq.of_lepl (.cons _ _ _ _ (.same _) .nil) rfl) .nil))) .nil) rfl rfl (fun _ => rfl) fun r3 _ h => ?_
  conv => cbv
  cases h
  exact .same _
section
open Go.Shelf Go.RowKit Go.Lib Go.Sort
instance : Inhabited infer_Range := ⟨⟨0, 0⟩⟩
def cellsRange (x : infer_Range) : List Value := [.int .i64 (IntKind.i64.wrap x.From), .int .i64 (IntKind.i64.wrap x.To)]
def normRange (x : infer_Range) : infer_Range := ⟨IntKind.i64.wrap x.From, IntKind.i64.wrap x.To⟩
theorem isAgg25 (w : World) : (isAgg 25).run Try.prog w = .ok true w := Try.isAgg25 w
theorem sizeOf25 (w : World) : (Go.sizeOf 25).run Try.prog w = .ok 2 w := Try.sizeOf25 w
theorem s_infer_Join_c2 {l r : List infer_Range} (h : sortG l infer_Join_c2 = some r) : ACalls Try.prog [] 26 [.osl 10000, .fn 27 [] []] [(10000, .arr true 25 2 e_infer_Range l)] (fun x o' => x = .tup [] ∧ o' = [(10000, .arr true 25 2 e_infer_Range r)]) := by
  have h1 : ∀ x, ∀ v ∈ cellsRange x, v.oneCell' = true := fun x v hv => by
    simp only [cellsRange, List.mem_cons, List.not_mem_nil, or_false] at hv
    rcases hv with rfl | rfl <;> rfl
  refine acalls_sort (P := Try.prog) (fs := 26) (g := 27) 2 cellsRange e_infer_Range normRange infer_Join_c2 ⟨_, Try.func26, rfl, rfl⟩ (fun _ => rfl) h1 (by decide) (fun _ => rfl) (fun _ => rfl) (fun x w Fr => ?_) (fun x w Fr cs hc => ?_)
    (fun x y => ⟨_, join_c2_eq x y⟩) (fun x y i hi => v_infer_Join_c2 hi) rless_swo rless_tot
    (fun cf hO blk cap d w eg hcmp hH hb hsz => AnyQ.slices_SortFunc Try.sortL 2 isAgg25 sizeOf25 cellsRange (fun _ => rfl) h1 cf hO 27 #[] blk 0 cap d w eg hcmp hH hb hsz)
    (fun p cap fv w => AnyF.slices_SortFunc_none Try.sortL p cap fv w) l r h
  · refine .agg _ _ rfl (fun c hc => h1 x c (by simpa using hc)) fun i c y hi hy => ?_
    match i with
    | 0 => cases hi; cases hy; exact .int _ _ _ rfl (wrap_has _ _)
    | 1 => cases hi; cases hy; exact .int _ _ _ rfl (wrap_has _ _)
    | i + 2 => simp [cellsRange] at hi
  · obtain ⟨e0, k0⟩ := RA.of_int (e := .v x.From) (RA.d (β := fun _ => none) (o := []) _ _ (hc 0 _ rfl))
    obtain ⟨e1, k1⟩ := RA.of_int (e := .v x.To) (RA.d (β := fun _ => none) (o := []) _ _ (hc 1 _ rfl))
    simp only [IE.den] at e0 e1 k0 k1
    refine ⟨by simp only [normRange, wrap_id k0, wrap_id k1], fun j hj => ?_⟩
    match j, hj with
    | 0, _ => simp [cellsRange, wrap_id k0, e0]
    | 1, _ => simp [cellsRange, wrap_id k1, e1]
end
def T_infer_Join : Tab := [(3, ⟨.int .i64, 1, 8, [.int .i64 (.lit 0)]⟩), (22, ⟨.slice 25, 1, 24, [.nilsl]⟩), (25, ⟨.struct [(0, 3), (1, 3)], 2, 16, [.int .i64 (.lit 0), .int .i64 (.lit 0)]⟩)]
theorem T_infer_Join_ok : TabOk Try.prog T_infer_Join := by
  have h : T_infer_Join = tabOf Try.prog [3, 22, 25] := by kernel_rfl
  rw [h]; exact tabOk_of (by kernel_rfl)
theorem v_infer_Join {y0 : List infer_Range} {r : List infer_Range} (h : infer_Join y0 = some r) : AVal Try.prog [] 10 [(e_sl 2 e_infer_Range) y0] ((e_sl 2 e_infer_Range) r) := by
  refine aval_of (c := ⟨T_infer_Join, [], 53, [], []⟩) Try.func10 (by kernel_rfl) rfl rfl rfl T_infer_Join_ok (eqsOk_of (by kernel_rfl)) Try_mixed rfl fun P hP _ => ?_
  unfold infer_Join at h
  conv => cbv
  refine den_own [(8, 20000, true)] [] (fun _ => .osl 20000) [] (fun r => [(20000, .arr false 25 2 e_infer_Range r)]) [(e_sl 2 e_infer_Range) y0] h (fun _ h => hP ▸ w_slices_Clone_sinfer_Range_infer_Range h) (fun _ => rfl) (.cons _ _ _ _ (.same _) .nil) rfl True.intro fun r1 _ h => ?_
  conv => cbv
  refine den_own [(8, 10000, true)] [] (fun _ => .osl 10000) [(10000, .arr false 25 2 e_infer_Range r1)] (fun r => [(10000, .arr false 25 2 e_infer_Range r)]) [.osl 10000, .fn 25 [] []] h (fun _ h => hP ▸ w_slices_DeleteFunc_sinfer_Range_infer_Range _ (fun _ _ h => v_infer_Join_c1 h) h) (fun _ => rfl) (.cons _ _ _ _ (.same _) (.cons _ _ _ _ (.same _) .nil)) rfl (by (conv => cbv); exact ⟨.same _, trivial⟩) fun r2 _ h => ?_
  conv => cbv
  refine den_own [(8, 10000, false)] [] (fun r => .tup []) [(10000, .arr true 25 2 e_infer_Range r2)] (fun r => [(10000, .arr true 25 2 e_infer_Range r)]) [.osl 10000, .fn 27 [] []] h (fun _ h => hP ▸ s_infer_Join_c2 h) (fun _ => rfl) (.cons _ _ _ _ (.same _) (.cons _ _ _ _ (.same _) .nil)) rfl (by (conv => cbv); exact ⟨.pin _ _ _ _ _ rfl, trivial⟩) fun r3 _ h => ?_
  conv => cbv
  refine den_cut (r := r) (fun j4 : (List infer_Range) => ⟨[(3, .osl 50)], [(50, .arr false 25 2 e_infer_Range j4)], []⟩) infer_Join_K1 ?_ (fun j4 h => ?_)
  · conv => cbv
    refine den_loop (infer_Join_L1 r3) h (fun a5 : Int × (List infer_Range) => ⟨[(3, .osl 50), (12, .osl 8), (13, .int .i64 (.len r3)), (14, .int .i64 (.v a5.1))], [(8, .arr true 25 2 e_infer_Range r3), (50, .arr false 25 2 e_infer_Range a5.2)], []⟩) ?_ (fun _ _ a5 x1 h hb1 hx1 => ?_)
    · intro j0 hj
      conv => cbv
      subst hj
      exact ⟨⟨.same _, .arr _ _ _ _ _ _ rfl, trivial⟩, .own _ _ _ _ _ _ rfl rfl, .same _, .same _, .int _ _ _ rfl, trivial⟩
    · unfold infer_Join_L1 at h
      conv => cbv
      refine den_br h (fun _ h => ?_) (fun _ h => ?_)
      · conv => cbv
        refine den_cut (r := x1) (fun j6 : (List infer_Range) => ⟨[(3, .osl 50), (12, .osl 8), (13, .int .i64 (.len r3)), (14, .int .i64 (.v a5.1))], [(8, .arr true 25 2 e_infer_Range r3), (50, .arr false 25 2 e_infer_Range j6)], []⟩) (infer_Join_K2 a5) ?_ (fun j6 h => ?_)
        · conv => cbv
          refine den_chk h fun h => ?_
          conv => cbv
          refine den_chk h fun h => ?_
          conv => cbv
          refine den_eload h fun p7 _ h => ?_
          conv => cbv
          refine .mk (by kernel_rfl) ?_
          conv => cbv
          refine .mk ?_
          conv => cbv
          refine den_br h (fun _ h => ?_) (fun _ h => ?_)
          · conv => cbv
            refine den_chk h fun h => ?_
            conv => cbv
            refine den_chk h fun h => ?_
            conv => cbv
            refine den_eload h fun p8 _ h => ?_
            conv => cbv
            refine .mk ?_
            conv => cbv
            refine den_br h (fun _ h => ?_) (fun _ h => ?_)
            · conv => cbv
              refine .mk (by kernel_rfl) ?_
              conv => cbv
              refine .mk ?_
              conv => cbv
              refine den_chk h fun h => ?_
              conv => cbv
              refine den_chk h fun h => ?_
              conv => cbv
              refine ⟨?_, ?_⟩
              · refine den_eload h fun p9 _ h => ?_
                conv => cbv
                refine .mk ?_
                conv => cbv
                refine den_chk h fun h => ?_
                conv => cbv
                refine den_chk h fun h => ?_
                conv => cbv
                refine den_estore' (f := e_infer_Range) (fun q11 => (⟨q11.From, (if p7.To > p9.To then p7.To else p9.To)⟩ : infer_Range)) h (fun q11 => CEqL.of_lepl (.cons _ _ _ _ (.int _ _ _ rfl) (.cons _ _ _ _ (.int _ _ _ rfl) .nil)) rfl) fun l10 _ h => ?_
                conv => cbv
                refine den_join h fun j0 hj => ?_
                conv => cbv
                subst hj
                exact ⟨⟨.same _, .arr _ _ _ _ _ _ rfl, trivial⟩, .same _, .same _, .same _, .same _, trivial⟩
              · refine den_eload h fun p12 _ h => ?_
                conv => cbv
                refine .mk ?_
                conv => cbv
                refine den_chk h fun h => ?_
                conv => cbv
                refine den_chk h fun h => ?_
                conv => cbv
                refine den_estore' (f := e_infer_Range) (fun q14 => (⟨q14.From, (if p7.To > p12.To then p7.To else p12.To)⟩ : infer_Range)) h (fun q14 => CEqL.of_lepl (.cons _ _ _ _ (.int _ _ _ rfl) (.cons _ _ _ _ (.int _ _ _ rfl) .nil)) rfl) fun l13 _ h => ?_
                conv => cbv
                refine den_join h fun j0 hj => ?_
                conv => cbv
                subst hj
                exact ⟨⟨.same _, .arr _ _ _ _ _ _ rfl, trivial⟩, .same _, .same _, .same _, .same _, trivial⟩
            · conv => cbv
              refine den_app_own e_infer_Range (xs := [p7]) h rfl (News.sls (.cons _ _ _ _ (VEq.of_lepl (.cons _ _ _ _ (.same _) (.cons _ _ _ _ (.same _) .nil)) rfl) .nil)) fun l15 _ h => ?_
              conv => cbv
              refine den_join h fun j0 hj => ?_
              conv => cbv
              subst hj
              exact ⟨⟨.same _, .arr _ _ _ _ _ _ rfl, trivial⟩, .same _, .same _, .same _, .same _, trivial⟩
          · conv => cbv
            refine .mk ?_
            conv => cbv
            refine den_app_own e_infer_Range (xs := [p7]) h rfl (News.sls (.cons _ _ _ _ (VEq.of_lepl (.cons _ _ _ _ (.same _) (.cons _ _ _ _ (.same _) .nil)) rfl) .nil)) fun l16 _ h => ?_
            conv => cbv
            refine den_join h fun j0 hj => ?_
            conv => cbv
            subst hj
            exact ⟨⟨.same _, .arr _ _ _ _ _ _ rfl, trivial⟩, .same _, .same _, .same _, .same _, trivial⟩
        · unfold infer_Join_K2 at h
          conv => cbv
          refine den_back h hb1 fun j0 hj => ?_
          conv => cbv
          subst hj
          exact ⟨⟨.same _, .arr _ _ _ _ _ _ rfl, trivial⟩, .same _, .same _, .same _, .int _ _ _ rfl, trivial⟩
      · conv => cbv
        replace h := den_out h hx1
        refine den_join h fun j0 hj => ?_
        conv => cbv
        subst hj
        exact ⟨⟨.arr _ _ _ _ _ _ rfl, trivial⟩, .same _, trivial⟩
  · unfold infer_Join_K1 at h
    conv => cbv
    cases h
    exact .same _
def T_infer_Missing : Tab := [(3, ⟨.int .i64, 1, 8, [.int .i64 (.lit 0)]⟩), (22, ⟨.slice 25, 1, 24, [.nilsl]⟩), (25, ⟨.struct [(0, 3), (1, 3)], 2, 16, [.int .i64 (.lit 0), .int .i64 (.lit 0)]⟩)]
theorem T_infer_Missing_ok : TabOk Try.prog T_infer_Missing := by
  have h : T_infer_Missing = tabOf Try.prog [3, 22, 25] := by kernel_rfl
  rw [h]; exact tabOk_of (by kernel_rfl)
theorem v_infer_Missing {y0 : Int} {y1 : List infer_Range} {r : List infer_Range} (h : infer_Missing y0 y1 = some r) : AVal Try.prog [] 11 [e_i64 y0, (e_sl 2 e_infer_Range) y1] ((e_sl 2 e_infer_Range) r) := by
  refine aval_of (c := ⟨T_infer_Missing, [], 37, [], []⟩) Try.func11 (by kernel_rfl) rfl rfl rfl T_infer_Missing_ok (eqsOk_of (by kernel_rfl)) Try_mixed rfl fun P hP _ => ?_
  unfold infer_Missing at h
  conv => cbv
  refine den_cut (r := r) (fun j1 : Int × (List infer_Range) => ⟨[(0, .int .i64 (.v y0)), (5, .osl 24), (6, .int .i64 (.v j1.1))], [(24, .arr false 25 2 e_infer_Range j1.2)], []⟩) (infer_Missing_K1 y0) ?_ (fun j1 h => ?_)
  · conv => cbv
    refine den_call (e_sl 2 e_infer_Range) [(e_sl 2 e_infer_Range) y1] h (fun _ h => hP ▸ v_infer_Join h) (.cons _ _ _ _ (.same _) .nil) rfl rfl (fun _ => rfl) fun r4 _ h => ?_
    conv => cbv
    refine den_loop (infer_Missing_L1 y0 r4) h (fun a5 : Int × Int × (List infer_Range) => ⟨[(0, .int .i64 (.v y0)), (5, .osl 24), (6, .int .i64 (.v a5.1)), (10, .sl 2 e_infer_Range r4), (11, .int .i64 (.len r4)), (12, .int .i64 (.v a5.2.1))], [(24, .arr false 25 2 e_infer_Range a5.2.2)], []⟩) ?_ (fun _ _ a5 x1 h hb1 hx1 => ?_)
    · intro j0 hj
      conv => cbv
      subst hj
      exact ⟨⟨.arr _ _ _ _ _ _ rfl, trivial⟩, .same _, .own _ _ _ _ _ _ rfl rfl, .int _ _ _ rfl, .same _, .same _, .int _ _ _ rfl, trivial⟩
    · unfold infer_Missing_L1 at h
      conv => cbv
      refine den_br h (fun _ h => ?_) (fun _ h => ?_)
      · conv => cbv
        refine den_elem h fun p6 _ h => ?_
        conv => cbv
        refine .mk ?_
        conv => cbv
        refine den_app_own e_infer_Range (xs := [(⟨a5.1, (if y0 < p6.From then y0 else p6.From)⟩ : infer_Range)]) h rfl (News.sls (.cons _ _ _ _ (VEq.of_lepl (.cons _ _ _ _ (.int _ _ _ rfl) (.cons _ _ _ _ (.int _ _ _ rfl) .nil)) rfl) .nil)) fun l7 _ h => ?_
        conv => cbv
        refine den_back h hb1 fun j0 hj => ?_
        conv => cbv
        subst hj
        exact ⟨⟨.arr _ _ _ _ _ _ rfl, trivial⟩, .same _, .same _, .int _ _ _ rfl, .same _, .same _, .int _ _ _ rfl, trivial⟩
      · conv => cbv
        replace h := den_out h hx1
        refine den_join h fun j0 hj => ?_
        conv => cbv
        subst hj
        exact ⟨⟨.arr _ _ _ _ _ _ rfl, trivial⟩, .same _, .same _, .int _ _ _ rfl, trivial⟩
  · unfold infer_Missing_K1 at h
    conv => cbv
    refine .mk ?_
    conv => cbv
    refine den_app_own e_infer_Range (xs := [(⟨j1.1, y0⟩ : infer_Range)]) h rfl (News.sls (.cons _ _ _ _ (VEq.of_lepl (.cons _ _ _ _ (.int _ _ _ rfl) (.cons _ _ _ _ (.int _ _ _ rfl) .nil)) rfl) .nil)) fun l2 _ h => ?_
    conv => cbv
    refine den_call (e_sl 2 e_infer_Range) [(e_sl 2 e_infer_Range) l2] h (fun _ h => hP ▸ v_infer_Join h) (.cons _ _ _ _ (.same _) .nil) rfl rfl (fun _ => rfl) fun r3 _ h => ?_
    conv => cbv
    cases h
    exact .same _
def T_jetsamlaw17_Ranges : Tab := [(22, ⟨.slice 25, 1, 24, [.nilsl]⟩), (25, ⟨.struct [(0, 3), (1, 3)], 2, 16, [.int .i64 (.lit 0), .int .i64 (.lit 0)]⟩)]
theorem T_jetsamlaw17_Ranges_ok : TabOk Try.prog T_jetsamlaw17_Ranges := by
  have h : T_jetsamlaw17_Ranges = tabOf Try.prog [22, 25] := by kernel_rfl
  rw [h]; exact tabOk_of (by kernel_rfl)
theorem v_jetsamlaw17_Ranges {y0 : List infer_Range} {y1 : List infer_Range} {r : Bool} (h : jetsamlaw17_Ranges y0 y1 = some r) : AVal Try.prog [] 12 [(e_sl 2 e_infer_Range) y0, (e_sl 2 e_infer_Range) y1] (e_bool r) := by
  refine aval_of (c := ⟨T_jetsamlaw17_Ranges, [], 26, [], [(25, [.i, .i])]⟩) Try.func12 (by kernel_rfl) rfl rfl rfl T_jetsamlaw17_Ranges_ok (eqsOk_of (by kernel_rfl)) Try_mixed rfl fun P hP _ => ?_
  unfold jetsamlaw17_Ranges at h
  conv => cbv
  refine den_br h (fun _ h => ?_) (fun _ h => ?_)
  · conv => cbv
    cases h
    exact .bool _ _ rfl
  · conv => cbv
    refine den_cut (r := r) (fun j1 : Unit => ⟨[], [], []⟩) jetsamlaw17_Ranges_K1 ?_ (fun j1 h => ?_)
    · conv => cbv
      refine den_loop (jetsamlaw17_Ranges_L1 y0 y1) h (fun a2 : Int => ⟨[(0, .sl 2 e_infer_Range y0), (1, .sl 2 e_infer_Range y1), (5, .int .i64 (.v a2))], [], []⟩) ?_ (fun _ _ a2 x1 h hb1 hx1 => ?_)
      · intro j0 hj
        conv => cbv
        subst hj
        exact ⟨.same _, .same _, .int _ _ _ rfl, trivial⟩
      · unfold jetsamlaw17_Ranges_L1 at h
        conv => cbv
        refine den_br h (fun _ h => ?_) (fun _ h => ?_)
        · conv => cbv
          refine .mk (by kernel_rfl) ?_
          conv => cbv
          refine den_elem h fun p3 _ h => ?_
          conv => cbv
          refine .mk ?_
          conv => cbv
          refine den_elem h fun p4 _ h => ?_
          conv => cbv
          refine den_br h (fun _ h => ?_) (fun _ h => ?_)
          · conv => cbv
            replace h := den_out h hx1
            cases h
            exact .bool _ _ rfl
          · conv => cbv
            refine den_back h hb1 fun j0 hj => ?_
            conv => cbv
            subst hj
            exact ⟨.same _, .same _, .int _ _ _ rfl, trivial⟩
        · conv => cbv
          replace h := den_out h hx1
          refine den_join h fun j0 hj => ?_
          conv => cbv
          subst hj
          exact trivial
    · unfold jetsamlaw17_Ranges_K1 at h
      conv => cbv
      cases h
      exact .bool _ _ rfl
def T_jetsamlaw17_awake : Tab := [(3, ⟨.int .i64, 1, 8, [.int .i64 (.lit 0)]⟩), (22, ⟨.slice 25, 1, 24, [.nilsl]⟩), (25, ⟨.struct [(0, 3), (1, 3)], 2, 16, [.int .i64 (.lit 0), .int .i64 (.lit 0)]⟩)]
theorem T_jetsamlaw17_awake_ok : TabOk Try.prog T_jetsamlaw17_awake := by
  have h : T_jetsamlaw17_awake = tabOf Try.prog [3, 22, 25] := by kernel_rfl
  rw [h]; exact tabOk_of (by kernel_rfl)
theorem v_jetsamlaw17_awake {r : Bool} (h : jetsamlaw17_awake = some r) : AVal Try.prog [] 9 [] (e_bool r) := by
  refine aval_of (c := ⟨T_jetsamlaw17_awake, [], 24, [], []⟩) Try.func9 (by kernel_rfl) rfl rfl rfl T_jetsamlaw17_awake_ok (eqsOk_of (by kernel_rfl)) Try_mixed rfl fun P hP _ => ?_
  unfold jetsamlaw17_awake at h
  conv => cbv
  refine .mk ?_
  conv => cbv
  refine den_call (e_sl 2 e_infer_Range) [(e_sl 2 e_infer_Range) [(⟨(5 : Int), (9 : Int)⟩ : infer_Range), (⟨(0 : Int), (3 : Int)⟩ : infer_Range), (⟨(3 : Int), (5 : Int)⟩ : infer_Range), (⟨(12 : Int), (12 : Int)⟩ : infer_Range)]] h (fun _ h => hP ▸ v_infer_Join h) (.cons _ _ _ _ (.sls (.cons _ _ _ _ (VEq.of_lepl (.cons _ _ _ _ (.int _ _ _ rfl) (.cons _ _ _ _ (.int _ _ _ rfl) .nil)) rfl) (.cons _ _ _ _ (VEq.of_lepl (.cons _ _ _ _ (.int _ _ _ rfl) (.cons _ _ _ _ (.int _ _ _ rfl) .nil)) rfl) (.cons _ _ _ _ (VEq.of_lepl (.cons _ _ _ _ (.int _ _ _ rfl) (.cons _ _ _ _ (.int _ _ _ rfl) .nil)) rfl) (.cons _ _ _ _ (VEq.of_lepl (.cons _ _ _ _ (.int _ _ _ rfl) (.cons _ _ _ _ (.int _ _ _ rfl) .nil)) rfl) .nil))))) .nil) rfl rfl (fun _ => rfl) fun r1 _ h => ?_
  conv => cbv
  refine den_call (e_sl 2 e_infer_Range) [e_i64 (12 : Int), (e_sl 2 e_infer_Range) [(⟨(0 : Int), (3 : Int)⟩ : infer_Range), (⟨(5 : Int), (9 : Int)⟩ : infer_Range)]] h (fun _ h => hP ▸ v_infer_Missing h) (.cons _ _ _ _ (.int _ _ _ rfl) (.cons _ _ _ _ (.sls (.cons _ _ _ _ (VEq.of_lepl (.cons _ _ _ _ (.int _ _ _ rfl) (.cons _ _ _ _ (.int _ _ _ rfl) .nil)) rfl) (.cons _ _ _ _ (VEq.of_lepl (.cons _ _ _ _ (.int _ _ _ rfl) (.cons _ _ _ _ (.int _ _ _ rfl) .nil)) rfl) .nil))) .nil)) rfl rfl (fun _ => rfl) fun r2 _ h => ?_
  conv => cbv
  refine .mk ?_
  conv => cbv
  refine den_call e_bool [(e_sl 2 e_infer_Range) r1, (e_sl 2 e_infer_Range) [(⟨(0 : Int), (9 : Int)⟩ : infer_Range)]] h (fun _ h => hP ▸ v_jetsamlaw17_Ranges h) (.cons _ _ _ _ (.same _) (.cons _ _ _ _ (.sls (.cons _ _ _ _ (VEq.of_lepl (.cons _ _ _ _ (.int _ _ _ rfl) (.cons _ _ _ _ (.int _ _ _ rfl) .nil)) rfl) .nil)) .nil)) rfl rfl (fun _ => rfl) fun r3 _ h => ?_
  conv => cbv
  refine .mk ?_
  conv => cbv
  refine den_br h (fun _ h => ?_) (fun _ h => ?_)
  · conv => cbv
    refine den_call e_bool [(e_sl 2 e_infer_Range) r2, (e_sl 2 e_infer_Range) [(⟨(3 : Int), (5 : Int)⟩ : infer_Range), (⟨(9 : Int), (12 : Int)⟩ : infer_Range)]] h (fun _ h => hP ▸ v_jetsamlaw17_Ranges h) (.cons _ _ _ _ (.same _) (.cons _ _ _ _ (.sls (.cons _ _ _ _ (VEq.of_lepl (.cons _ _ _ _ (.int _ _ _ rfl) (.cons _ _ _ _ (.int _ _ _ rfl) .nil)) rfl) (.cons _ _ _ _ (VEq.of_lepl (.cons _ _ _ _ (.int _ _ _ rfl) (.cons _ _ _ _ (.int _ _ _ rfl) .nil)) rfl) .nil))) .nil)) rfl rfl (fun _ => rfl) fun r4 _ h => ?_
    conv => cbv
    cases h
    exact .same _
  · conv => cbv
    cases h
    exact .bool _ _ rfl
def T_jetsamlaw17_rises : Tab := [(3, ⟨.int .i64, 1, 8, [.int .i64 (.lit 0)]⟩), (22, ⟨.slice 25, 1, 24, [.nilsl]⟩), (25, ⟨.struct [(0, 3), (1, 3)], 2, 16, [.int .i64 (.lit 0), .int .i64 (.lit 0)]⟩)]
theorem T_jetsamlaw17_rises_ok : TabOk Try.prog T_jetsamlaw17_rises := by
  have h : T_jetsamlaw17_rises = tabOf Try.prog [3, 22, 25] := by kernel_rfl
  rw [h]; exact tabOk_of (by kernel_rfl)
theorem v_jetsamlaw17_rises {y0 : List infer_Range} {r : Bool} (h : jetsamlaw17_rises y0 = some r) : AVal Try.prog [] 13 [(e_sl 2 e_infer_Range) y0] (e_bool r) := by
  refine aval_of (c := ⟨T_jetsamlaw17_rises, [], 34, [], []⟩) Try.func13 (by kernel_rfl) rfl rfl rfl T_jetsamlaw17_rises_ok (eqsOk_of (by kernel_rfl)) Try_mixed rfl fun P hP _ => ?_
  unfold jetsamlaw17_rises at h
  conv => cbv
  refine den_cut (r := r) (fun j1 : Unit => ⟨[], [], []⟩) jetsamlaw17_rises_K1 ?_ (fun j1 h => ?_)
  · conv => cbv
    refine den_loop (jetsamlaw17_rises_L1 y0) h (fun a2 : Int => ⟨[(0, .sl 2 e_infer_Range y0), (3, .int .i64 (.v a2))], [], []⟩) ?_ (fun _ _ a2 x1 h hb1 hx1 => ?_)
    · intro j0 hj
      conv => cbv
      subst hj
      exact ⟨.same _, .int _ _ _ rfl, trivial⟩
    · unfold jetsamlaw17_rises_L1 at h
      conv => cbv
      refine den_br h (fun _ h => ?_) (fun _ h => ?_)
      · conv => cbv
        refine .mk (by kernel_rfl) ?_
        conv => cbv
        refine den_elem h fun p3 _ h => ?_
        conv => cbv
        refine den_call e_i64 [e_infer_Range p3] h (fun _ h => hP ▸ v_infer_Range_Len h) (.cons _ _ _ _ (.same _) .nil) rfl rfl (fun _ => rfl) fun r4 _ h => ?_
        conv => cbv
        refine .mk ?_
        conv => cbv
        refine .mk ?_
        conv => cbv
        refine den_br h (fun _ h => ?_) (fun _ h => ?_)
        · conv => cbv
          refine .mk ?_
          conv => cbv
          refine .mk ?_
          conv => cbv
          replace h := den_out h hx1
          cases h
          exact .bool _ _ rfl
        · conv => cbv
          refine den_br h (fun _ h => ?_) (fun _ h => ?_)
          · conv => cbv
            refine den_elem h fun p5 _ h => ?_
            conv => cbv
            refine .mk ?_
            conv => cbv
            refine den_elem h fun p6 _ h => ?_
            conv => cbv
            refine .mk ?_
            conv => cbv
            refine den_br h (fun _ h => ?_) (fun _ h => ?_)
            · conv => cbv
              replace h := den_out h hx1
              cases h
              exact .bool _ _ rfl
            · conv => cbv
              refine den_back h hb1 fun j0 hj => ?_
              conv => cbv
              subst hj
              exact ⟨.same _, .int _ _ _ rfl, trivial⟩
          · conv => cbv
            refine .mk ?_
            conv => cbv
            refine .mk ?_
            conv => cbv
            refine den_back h hb1 fun j0 hj => ?_
            conv => cbv
            subst hj
            exact ⟨.same _, .int _ _ _ rfl, trivial⟩
      · conv => cbv
        replace h := den_out h hx1
        refine den_join h fun j0 hj => ?_
        conv => cbv
        subst hj
        exact trivial
  · unfold jetsamlaw17_rises_K1 at h
    conv => cbv
    cases h
    exact .bool _ _ rfl
def T_jetsamlaw17_InferParts : Tab := [(3, ⟨.int .i64, 1, 8, [.int .i64 (.lit 0)]⟩), (22, ⟨.slice 25, 1, 24, [.nilsl]⟩), (25, ⟨.struct [(0, 3), (1, 3)], 2, 16, [.int .i64 (.lit 0), .int .i64 (.lit 0)]⟩)]
theorem T_jetsamlaw17_InferParts_ok : TabOk Try.prog T_jetsamlaw17_InferParts := by
  have h : T_jetsamlaw17_InferParts = tabOf Try.prog [3, 22, 25] := by kernel_rfl
  rw [h]; exact tabOk_of (by kernel_rfl)
theorem v_jetsamlaw17_InferParts {y0 : List infer_Range} {y1 : Int} {y2 : Int} {r : Bool} (h : jetsamlaw17_InferParts y0 y1 y2 = some r) : AVal Try.prog [] 3 [(e_sl 2 e_infer_Range) y0, e_i64 y1, e_i64 y2] (e_bool r) := by
  refine aval_of (c := ⟨T_jetsamlaw17_InferParts, [], 208, [], []⟩) Try.func3 (by kernel_rfl) rfl rfl rfl T_jetsamlaw17_InferParts_ok (eqsOk_of (by kernel_rfl)) Try_mixed rfl fun P hP _ => ?_
  unfold jetsamlaw17_InferParts at h
  conv => cbv
  refine .mk ?_
  conv => cbv
  refine .mk ?_
  conv => cbv
  refine den_br h (fun _ h => ?_) (fun _ h => ?_)
  · conv => cbv
    refine den_call e_bool [] h (fun _ h => hP ▸ v_jetsamlaw17_awake h) .nil rfl rfl (fun _ => rfl) fun r1 _ h => ?_
    conv => cbv
    cases h
    exact .same _
  · conv => cbv
    refine den_cut (r := r) (fun j2 : (List infer_Range) => ⟨[(0, .sl 2 e_infer_Range y0), (1, .int .i64 (.v y1)), (8, .osl 85)], [(85, .arr false 25 2 e_infer_Range j2)], []⟩) (jetsamlaw17_InferParts_K1 y0 y1) ?_ (fun j2 h => ?_)
    · conv => cbv
      refine den_loop (jetsamlaw17_InferParts_L4 y0 y1 y2) h (fun a30 : Int × (List infer_Range) => ⟨[(0, .sl 2 e_infer_Range y0), (1, .int .i64 (.v y1)), (2, .int .i64 (.v y2)), (7, .int .i64 (.len y0)), (8, .osl 85), (9, .int .i64 (.v a30.1))], [(85, .arr false 25 2 e_infer_Range a30.2)], []⟩) ?_ (fun _ _ a30 x1 h hb1 hx1 => ?_)
      · intro j0 hj
        conv => cbv
        subst hj
        exact ⟨⟨.arr _ _ _ _ _ _ rfl, trivial⟩, .same _, .same _, .same _, .same _, .own _ _ _ _ _ _ rfl rfl, .int _ _ _ rfl, trivial⟩
      · unfold jetsamlaw17_InferParts_L4 at h
        conv => cbv
        refine den_br h (fun _ h => ?_) (fun _ h => ?_)
        · conv => cbv
          refine .mk ?_
          conv => cbv
          refine den_elem h fun p31 _ h => ?_
          conv => cbv
          refine .mk ?_
          conv => cbv
          refine den_br h (fun _ h => ?_) (fun _ h => ?_)
          · conv => cbv
            refine .mk ?_
            conv => cbv
            refine .mk ?_
            conv => cbv
            refine .mk ?_
            conv => cbv
            refine den_call e_bool [] h (fun _ h => hP ▸ v_jetsamlaw17_awake h) .nil rfl rfl (fun _ => rfl) fun r32 _ h => ?_
            conv => cbv
            replace h := den_out h hx1
            cases h
            exact .same _
          · conv => cbv
            refine den_elem h fun p33 _ h => ?_
            conv => cbv
            refine .mk ?_
            conv => cbv
            refine den_br h (fun _ h => ?_) (fun _ h => ?_)
            · conv => cbv
              refine .mk ?_
              conv => cbv
              refine .mk ?_
              conv => cbv
              refine den_call e_bool [] h (fun _ h => hP ▸ v_jetsamlaw17_awake h) .nil rfl rfl (fun _ => rfl) fun r34 _ h => ?_
              conv => cbv
              replace h := den_out h hx1
              cases h
              exact .same _
            · conv => cbv
              refine den_elem h fun p35 _ h => ?_
              conv => cbv
              refine .mk ?_
              conv => cbv
              refine .mk ?_
              conv => cbv
              refine den_br h (fun _ h => ?_) (fun _ h => ?_)
              · conv => cbv
                refine den_call e_bool [] h (fun _ h => hP ▸ v_jetsamlaw17_awake h) .nil rfl rfl (fun _ => rfl) fun r36 _ h => ?_
                conv => cbv
                replace h := den_out h hx1
                cases h
                exact .same _
              · conv => cbv
                refine den_elem h fun p37 _ h => ?_
                conv => cbv
                refine den_br h (fun _ h => ?_) (fun _ h => ?_)
                · conv => cbv
                  refine den_call e_bool [] h (fun _ h => hP ▸ v_jetsamlaw17_awake h) .nil rfl rfl (fun _ => rfl) fun r38 _ h => ?_
                  conv => cbv
                  replace h := den_out h hx1
                  cases h
                  exact .same _
                · conv => cbv
                  refine .mk ?_
                  conv => cbv
                  refine den_chk h fun h => ?_
                  conv => cbv
                  refine .mk ?_
                  conv => cbv
                  refine den_chk h fun h => ?_
                  conv => cbv
                  refine .mk ?_
                  conv => cbv
                  refine den_chk h fun h => ?_
                  conv => cbv
                  refine den_elem h fun p39 _ h => ?_
                  conv => cbv
                  refine den_app_own e_infer_Range (xs := [p39]) h rfl (News.sls (.cons _ _ _ _ (VEq.of_lepl (.cons _ _ _ _ (.same _) (.cons _ _ _ _ (.same _) .nil)) rfl) .nil)) fun l40 _ h => ?_
                  conv => cbv
                  refine den_back h hb1 fun j0 hj => ?_
                  conv => cbv
                  subst hj
                  exact ⟨⟨.arr _ _ _ _ _ _ rfl, trivial⟩, .same _, .same _, .same _, .same _, .same _, .int _ _ _ rfl, trivial⟩
        · conv => cbv
          replace h := den_out h hx1
          refine den_join h fun j0 hj => ?_
          conv => cbv
          subst hj
          exact ⟨⟨.arr _ _ _ _ _ _ rfl, trivial⟩, .same _, .same _, .same _, trivial⟩
    · unfold jetsamlaw17_InferParts_K1 at h
      conv => cbv
      refine den_call (e_sl 2 e_infer_Range) [(e_sl 2 e_infer_Range) y0] h (fun _ h => hP ▸ v_infer_Join h) (.cons _ _ _ _ (.same _) .nil) rfl rfl (fun _ => rfl) fun r3 _ h => ?_
      conv => cbv
      refine den_call (e_sl 2 e_infer_Range) [e_i64 y1, (e_sl 2 e_infer_Range) y0] h (fun _ h => hP ▸ v_infer_Missing h) (.cons _ _ _ _ (.same _) (.cons _ _ _ _ (.same _) .nil)) rfl rfl (fun _ => rfl) fun r4 _ h => ?_
      conv => cbv
      refine den_call (e_sl 2 e_infer_Range) [(e_sl 2 e_infer_Range) j2] h (fun _ h => hP ▸ v_infer_Join h) (.cons _ _ _ _ (.same _) .nil) rfl rfl (fun _ => rfl) fun r5 _ h => ?_
      conv => cbv
      refine den_call e_bool [(e_sl 2 e_infer_Range) r5, (e_sl 2 e_infer_Range) r3] h (fun _ h => hP ▸ v_jetsamlaw17_Ranges h) (.cons _ _ _ _ (.same _) (.cons _ _ _ _ (.same _) .nil)) rfl rfl (fun _ => rfl) fun r6 _ h => ?_
      conv => cbv
      refine .mk ?_
      conv => cbv
      refine den_br h (fun _ h => ?_) (fun _ h => ?_)
      · conv => cbv
        refine .mk ?_
        conv => cbv
        refine .mk ?_
        conv => cbv
        cases h
        exact .bool _ _ rfl
      · conv => cbv
        refine den_call (e_sl 2 e_infer_Range) [e_i64 y1, (e_sl 2 e_infer_Range) j2] h (fun _ h => hP ▸ v_infer_Missing h) (.cons _ _ _ _ (.same _) (.cons _ _ _ _ (.same _) .nil)) rfl rfl (fun _ => rfl) fun r7 _ h => ?_
        conv => cbv
        refine den_call e_bool [(e_sl 2 e_infer_Range) r7, (e_sl 2 e_infer_Range) r4] h (fun _ h => hP ▸ v_jetsamlaw17_Ranges h) (.cons _ _ _ _ (.same _) (.cons _ _ _ _ (.same _) .nil)) rfl rfl (fun _ => rfl) fun r8 _ h => ?_
        conv => cbv
        refine .mk ?_
        conv => cbv
        refine den_br h (fun _ h => ?_) (fun _ h => ?_)
        · conv => cbv
          refine .mk ?_
          conv => cbv
          cases h
          exact .bool _ _ rfl
        · conv => cbv
          refine den_call e_bool [(e_sl 2 e_infer_Range) r3] h (fun _ h => hP ▸ v_jetsamlaw17_rises h) (.cons _ _ _ _ (.same _) .nil) rfl rfl (fun _ => rfl) fun r9 _ h => ?_
          conv => cbv
          refine .mk ?_
          conv => cbv
          refine den_br h (fun _ h => ?_) (fun _ h => ?_)
          · conv => cbv
            cases h
            exact .bool _ _ rfl
          · conv => cbv
            refine den_call e_bool [(e_sl 2 e_infer_Range) r4] h (fun _ h => hP ▸ v_jetsamlaw17_rises h) (.cons _ _ _ _ (.same _) .nil) rfl rfl (fun _ => rfl) fun r10 _ h => ?_
            conv => cbv
            refine den_br h (fun _ h => ?_) (fun _ h => ?_)
            · conv => cbv
              cases h
              exact .bool _ _ rfl
            · conv => cbv
              refine den_cut (r := r) (fun j11 : Int => ⟨[(1, .int .i64 (.v y1)), (10, .sl 2 e_infer_Range r3), (12, .int .i64 (.v j11))], [], []⟩) (jetsamlaw17_InferParts_K2 y1 r3) ?_ (fun j11 h => ?_)
              · conv => cbv
                refine den_loop (jetsamlaw17_InferParts_L2 y1 r3 r4) h (fun a19 : Int × Int => ⟨[(1, .int .i64 (.v y1)), (10, .sl 2 e_infer_Range r3), (11, .sl 2 e_infer_Range r4), (12, .int .i64 (.v a19.1)), (13, .int .i64 (.v a19.2))], [], []⟩) ?_ (fun _ _ a19 x1 h hb1 hx1 => ?_)
                · intro j0 hj
                  conv => cbv
                  subst hj
                  exact ⟨.same _, .same _, .same _, .int _ _ _ rfl, .int _ _ _ rfl, trivial⟩
                · unfold jetsamlaw17_InferParts_L2 at h
                  conv => cbv
                  refine den_br h (fun _ h => ?_) (fun _ h => ?_)
                  · conv => cbv
                    refine den_cut (r := x1) (fun j20 : Int × Int × Bool => ⟨[(1, .int .i64 (.v y1)), (10, .sl 2 e_infer_Range r3), (11, .sl 2 e_infer_Range r4), (12, .int .i64 (.v j20.1)), (13, .int .i64 (.v a19.2)), (138, .int .i64 (.v j20.2.1)), (139, .int .i64 (.v y1)), (140, .bool (.v j20.2.2))], [], []⟩) (jetsamlaw17_InferParts_K4 a19) ?_ (fun j20 h => ?_)
                    · conv => cbv
                      refine .mk ?_
                      conv => cbv
                      refine den_elem h fun p21 _ h => ?_
                      conv => cbv
                      refine den_call e_i64 [e_infer_Range p21] h (fun _ h => hP ▸ v_infer_Range_Len h) (.cons _ _ _ _ (.same _) .nil) rfl rfl (fun _ => rfl) fun r22 _ h => ?_
                      conv => cbv
                      refine den_elem h fun p23 _ h => ?_
                      conv => cbv
                      refine .mk ?_
                      conv => cbv
                      refine .mk ?_
                      conv => cbv
                      refine den_br h (fun _ h => ?_) (fun _ h => ?_)
                      · conv => cbv
                        replace h := den_out h hx1
                        cases h
                        exact .bool _ _ rfl
                      · conv => cbv
                        refine den_elem h fun p24 _ h => ?_
                        conv => cbv
                        refine den_br h (fun _ h => ?_) (fun _ h => ?_)
                        · conv => cbv
                          replace h := den_out h hx1
                          cases h
                          exact .bool _ _ rfl
                        · conv => cbv
                          refine den_loop (jetsamlaw17_InferParts_L3 y1 r3 r4 a19 r22 p24) h (fun a25 : Int => ⟨[(1, .int .i64 (.v y1)), (10, .sl 2 e_infer_Range r3), (11, .sl 2 e_infer_Range r4), (12, .int .i64 (.ar .add .i64 (.v a19.1) (.v r22))), (13, .int .i64 (.v a19.2)), (14, .int .i64 (.v a25)), (136, .rptr [.int .i64 (.v p24.From), .int .i64 (.v p24.To)]), (137, .rptr [.int .i64 (.v p24.To)]), (138, .int .i64 (.v p24.To)), (139, .int .i64 (.v y1)), (140, .bool (.cmp .gtr (.v p24.To) (.v y1)))], [], []⟩) ?_ (fun _ _ a25 x2 h hb2 hx2 => ?_)
                          · intro j0 hj
                            conv => cbv
                            subst hj
                            exact ⟨.same _, .same _, .same _, .same _, .same _, .int _ _ _ rfl, .same _, .same _, .same _, .same _, .same _, trivial⟩
                          · unfold jetsamlaw17_InferParts_L3 at h
                            conv => cbv
                            refine den_br h (fun _ h => ?_) (fun _ h => ?_)
                            · conv => cbv
                              refine .mk (by kernel_rfl) ?_
                              conv => cbv
                              refine den_elem h fun p26 _ h => ?_
                              conv => cbv
                              refine .mk ?_
                              conv => cbv
                              refine den_elem h fun p27 _ h => ?_
                              conv => cbv
                              refine .mk ?_
                              conv => cbv
                              refine den_br h (fun _ h => ?_) (fun _ h => ?_)
                              · conv => cbv
                                refine den_elem h fun p28 _ h => ?_
                                conv => cbv
                                refine .mk ?_
                                conv => cbv
                                refine den_elem h fun p29 _ h => ?_
                                conv => cbv
                                refine .mk ?_
                                conv => cbv
                                refine den_br h (fun _ h => ?_) (fun _ h => ?_)
                                · conv => cbv
                                  replace h := den_out h hx2
                                  replace h := den_out h hx1
                                  cases h
                                  exact .bool _ _ rfl
                                · conv => cbv
                                  refine den_back h hb2 fun j0 hj => ?_
                                  conv => cbv
                                  subst hj
                                  exact ⟨.same _, .same _, .same _, .same _, .same _, .int _ _ _ rfl, .same _, .same _, .same _, .same _, .same _, trivial⟩
                              · conv => cbv
                                refine .mk ?_
                                conv => cbv
                                refine .mk ?_
                                conv => cbv
                                refine den_back h hb2 fun j0 hj => ?_
                                conv => cbv
                                subst hj
                                exact ⟨.same _, .same _, .same _, .same _, .same _, .int _ _ _ rfl, .same _, .same _, .same _, .same _, .same _, trivial⟩
                            · conv => cbv
                              replace h := den_out h hx2
                              refine den_join h fun j0 hj => ?_
                              conv => cbv
                              subst hj
                              exact ⟨.same _, .same _, .same _, .int _ _ _ rfl, .same _, .int _ _ _ rfl, .same _, .bool _ _ rfl, trivial⟩
                    · unfold jetsamlaw17_InferParts_K4 at h
                      conv => cbv
                      refine den_back h hb1 fun j0 hj => ?_
                      conv => cbv
                      subst hj
                      exact ⟨.same _, .same _, .same _, .int _ _ _ rfl, .int _ _ _ rfl, trivial⟩
                  · conv => cbv
                    replace h := den_out h hx1
                    refine den_join h fun j0 hj => ?_
                    conv => cbv
                    subst hj
                    exact ⟨.same _, .same _, .int _ _ _ rfl, trivial⟩
              · unfold jetsamlaw17_InferParts_K2 at h
                conv => cbv
                refine den_cut (r := r) (fun j12 : Int => ⟨[(1, .int .i64 (.v y1)), (10, .sl 2 e_infer_Range r3), (12, .int .i64 (.v j12))], [], []⟩) (jetsamlaw17_InferParts_K3 y1 r3) ?_ (fun j12 h => ?_)
                · conv => cbv
                  refine den_loop (jetsamlaw17_InferParts_L1 y1 r3) h (fun a16 : Int × Int => ⟨[(1, .int .i64 (.v y1)), (10, .sl 2 e_infer_Range r3), (12, .int .i64 (.v a16.1)), (15, .int .i64 (.v a16.2))], [], []⟩) ?_ (fun _ _ a16 x1 h hb1 hx1 => ?_)
                  · intro j0 hj
                    conv => cbv
                    subst hj
                    exact ⟨.same _, .same _, .int _ _ _ rfl, .int _ _ _ rfl, trivial⟩
                  · unfold jetsamlaw17_InferParts_L1 at h
                    conv => cbv
                    refine den_br h (fun _ h => ?_) (fun _ h => ?_)
                    · conv => cbv
                      refine .mk (by kernel_rfl) ?_
                      conv => cbv
                      refine den_elem h fun p17 _ h => ?_
                      conv => cbv
                      refine .mk ?_
                      conv => cbv
                      refine den_elem h fun p18 _ h => ?_
                      conv => cbv
                      refine .mk ?_
                      conv => cbv
                      refine .mk ?_
                      conv => cbv
                      refine den_back h hb1 fun j0 hj => ?_
                      conv => cbv
                      subst hj
                      exact ⟨.same _, .same _, .int _ _ _ rfl, .int _ _ _ rfl, trivial⟩
                    · conv => cbv
                      replace h := den_out h hx1
                      refine den_join h fun j0 hj => ?_
                      conv => cbv
                      subst hj
                      exact ⟨.same _, .same _, .int _ _ _ rfl, trivial⟩
                · unfold jetsamlaw17_InferParts_K3 at h
                  conv => cbv
                  refine .mk ?_
                  conv => cbv
                  refine den_br h (fun _ h => ?_) (fun _ h => ?_)
                  · conv => cbv
                    refine den_call (e_sl 2 e_infer_Range) [(e_sl 2 e_infer_Range) r3] h (fun _ h => hP ▸ v_infer_Join h) (.cons _ _ _ _ (.same _) .nil) rfl rfl (fun _ => rfl) fun r13 _ h => ?_
                    conv => cbv
                    refine .mk ?_
                    conv => cbv
                    refine den_call e_bool [(e_sl 2 e_infer_Range) r13, (e_sl 2 e_infer_Range) r3] h (fun _ h => hP ▸ v_jetsamlaw17_Ranges h) (.cons _ _ _ _ (.same _) (.cons _ _ _ _ (.same _) .nil)) rfl rfl (fun _ => rfl) fun r14 _ h => ?_
                    conv => cbv
                    refine den_br h (fun _ h => ?_) (fun _ h => ?_)
                    · conv => cbv
                      refine den_call e_bool [] h (fun _ h => hP ▸ v_jetsamlaw17_awake h) .nil rfl rfl (fun _ => rfl) fun r15 _ h => ?_
                      conv => cbv
                      cases h
                      exact .same _
                    · conv => cbv
                      cases h
                      exact .bool _ _ rfl
                  · conv => cbv
                    refine .mk ?_
                    conv => cbv
                    cases h
                    exact .bool _ _ rfl
def T_jetsamlaw17_InferTwice : Tab := [(3, ⟨.int .i64, 1, 8, [.int .i64 (.lit 0)]⟩), (22, ⟨.slice 25, 1, 24, [.nilsl]⟩), (25, ⟨.struct [(0, 3), (1, 3)], 2, 16, [.int .i64 (.lit 0), .int .i64 (.lit 0)]⟩)]
theorem T_jetsamlaw17_InferTwice_ok : TabOk Try.prog T_jetsamlaw17_InferTwice := by
  have h : T_jetsamlaw17_InferTwice = tabOf Try.prog [3, 22, 25] := by kernel_rfl
  rw [h]; exact tabOk_of (by kernel_rfl)
theorem v_jetsamlaw17_InferTwice {y0 : List infer_Range} {y1 : Int} {r : Bool} (h : jetsamlaw17_InferTwice y0 y1 = some r) : AVal Try.prog [] 4 [(e_sl 2 e_infer_Range) y0, e_i64 y1] (e_bool r) := by
  refine aval_of (c := ⟨T_jetsamlaw17_InferTwice, [], 83, [], []⟩) Try.func4 (by kernel_rfl) rfl rfl rfl T_jetsamlaw17_InferTwice_ok (eqsOk_of (by kernel_rfl)) Try_mixed rfl fun P hP _ => ?_
  unfold jetsamlaw17_InferTwice at h
  conv => cbv
  refine .mk ?_
  conv => cbv
  refine den_br h (fun _ h => ?_) (fun _ h => ?_)
  · conv => cbv
    refine den_call e_bool [] h (fun _ h => hP ▸ v_jetsamlaw17_awake h) .nil rfl rfl (fun _ => rfl) fun r1 _ h => ?_
    conv => cbv
    cases h
    exact .same _
  · conv => cbv
    refine den_cut (r := r) (fun j2 : (List infer_Range) => ⟨[(0, .sl 2 e_infer_Range y0), (1, .int .i64 (.v y1)), (5, .osl 71)], [(71, .arr false 25 2 e_infer_Range j2)], []⟩) (jetsamlaw17_InferTwice_K1 y0 y1) ?_ (fun j2 h => ?_)
    · conv => cbv
      refine den_loop (jetsamlaw17_InferTwice_L1 y0 y1) h (fun a8 : Int × (List infer_Range) => ⟨[(0, .sl 2 e_infer_Range y0), (1, .int .i64 (.v y1)), (5, .osl 71), (6, .int .i64 (.v a8.1))], [(71, .arr false 25 2 e_infer_Range a8.2)], []⟩) ?_ (fun _ _ a8 x1 h hb1 hx1 => ?_)
      · intro j0 hj
        conv => cbv
        subst hj
        exact ⟨⟨.arr _ _ _ _ _ _ rfl, trivial⟩, .same _, .same _, .own _ _ _ _ _ _ rfl rfl, .int _ _ _ rfl, trivial⟩
      · unfold jetsamlaw17_InferTwice_L1 at h
        conv => cbv
        refine den_br h (fun _ h => ?_) (fun _ h => ?_)
        · conv => cbv
          refine .mk ?_
          conv => cbv
          refine den_elem h fun p9 _ h => ?_
          conv => cbv
          refine .mk ?_
          conv => cbv
          refine den_br h (fun _ h => ?_) (fun _ h => ?_)
          · conv => cbv
            refine .mk ?_
            conv => cbv
            refine .mk ?_
            conv => cbv
            refine .mk ?_
            conv => cbv
            refine den_call e_bool [] h (fun _ h => hP ▸ v_jetsamlaw17_awake h) .nil rfl rfl (fun _ => rfl) fun r10 _ h => ?_
            conv => cbv
            replace h := den_out h hx1
            cases h
            exact .same _
          · conv => cbv
            refine den_elem h fun p11 _ h => ?_
            conv => cbv
            refine .mk ?_
            conv => cbv
            refine den_br h (fun _ h => ?_) (fun _ h => ?_)
            · conv => cbv
              refine .mk ?_
              conv => cbv
              refine .mk ?_
              conv => cbv
              refine den_call e_bool [] h (fun _ h => hP ▸ v_jetsamlaw17_awake h) .nil rfl rfl (fun _ => rfl) fun r12 _ h => ?_
              conv => cbv
              replace h := den_out h hx1
              cases h
              exact .same _
            · conv => cbv
              refine den_elem h fun p13 _ h => ?_
              conv => cbv
              refine .mk ?_
              conv => cbv
              refine .mk ?_
              conv => cbv
              refine den_br h (fun _ h => ?_) (fun _ h => ?_)
              · conv => cbv
                refine den_call e_bool [] h (fun _ h => hP ▸ v_jetsamlaw17_awake h) .nil rfl rfl (fun _ => rfl) fun r14 _ h => ?_
                conv => cbv
                replace h := den_out h hx1
                cases h
                exact .same _
              · conv => cbv
                refine den_elem h fun p15 _ h => ?_
                conv => cbv
                refine den_br h (fun _ h => ?_) (fun _ h => ?_)
                · conv => cbv
                  refine den_call e_bool [] h (fun _ h => hP ▸ v_jetsamlaw17_awake h) .nil rfl rfl (fun _ => rfl) fun r16 _ h => ?_
                  conv => cbv
                  replace h := den_out h hx1
                  cases h
                  exact .same _
                · conv => cbv
                  refine .mk (by kernel_rfl) ?_
                  conv => cbv
                  refine den_elem h fun p17 _ h => ?_
                  conv => cbv
                  refine .mk ?_
                  conv => cbv
                  refine den_elem h fun p18 _ h => ?_
                  conv => cbv
                  refine .mk ?_
                  conv => cbv
                  refine den_app_own e_infer_Range (xs := [(⟨p17.From, (if y1 < p18.To then y1 else p18.To)⟩ : infer_Range)]) h rfl (News.sls (.cons _ _ _ _ (VEq.of_lepl (.cons _ _ _ _ (.int _ _ _ rfl) (.cons _ _ _ _ (.int _ _ _ rfl) .nil)) rfl) .nil)) fun l19 _ h => ?_
                  conv => cbv
                  refine den_back h hb1 fun j0 hj => ?_
                  conv => cbv
                  subst hj
                  exact ⟨⟨.arr _ _ _ _ _ _ rfl, trivial⟩, .same _, .same _, .same _, .int _ _ _ rfl, trivial⟩
        · conv => cbv
          replace h := den_out h hx1
          refine den_join h fun j0 hj => ?_
          conv => cbv
          subst hj
          exact ⟨⟨.arr _ _ _ _ _ _ rfl, trivial⟩, .same _, .same _, .same _, trivial⟩
    · unfold jetsamlaw17_InferTwice_K1 at h
      conv => cbv
      refine .mk ?_
      conv => cbv
      refine den_call (e_sl 2 e_infer_Range) [e_i64 y1, (e_sl 2 e_infer_Range) y0] h (fun _ h => hP ▸ v_infer_Missing h) (.cons _ _ _ _ (.same _) (.cons _ _ _ _ (.same _) .nil)) rfl rfl (fun _ => rfl) fun r3 _ h => ?_
      conv => cbv
      refine den_call (e_sl 2 e_infer_Range) [e_i64 y1, (e_sl 2 e_infer_Range) r3] h (fun _ h => hP ▸ v_infer_Missing h) (.cons _ _ _ _ (.same _) (.cons _ _ _ _ (.same _) .nil)) rfl rfl (fun _ => rfl) fun r4 _ h => ?_
      conv => cbv
      refine .mk ?_
      conv => cbv
      refine den_call (e_sl 2 e_infer_Range) [(e_sl 2 e_infer_Range) j2] h (fun _ h => hP ▸ v_infer_Join h) (.cons _ _ _ _ (.same _) .nil) rfl rfl (fun _ => rfl) fun r5 _ h => ?_
      conv => cbv
      refine den_call e_bool [(e_sl 2 e_infer_Range) r4, (e_sl 2 e_infer_Range) r5] h (fun _ h => hP ▸ v_jetsamlaw17_Ranges h) (.cons _ _ _ _ (.same _) (.cons _ _ _ _ (.same _) .nil)) rfl rfl (fun _ => rfl) fun r6 _ h => ?_
      conv => cbv
      refine den_br h (fun _ h => ?_) (fun _ h => ?_)
      · conv => cbv
        refine den_call e_bool [] h (fun _ h => hP ▸ v_jetsamlaw17_awake h) .nil rfl rfl (fun _ => rfl) fun r7 _ h => ?_
        conv => cbv
        cases h
        exact .same _
      · conv => cbv
        cases h
        exact .bool _ _ rfl
def T_jetsamlaw17_few : Tab := [(3, ⟨.int .i64, 1, 8, [.int .i64 (.lit 0)]⟩), (37, ⟨.slice 41, 1, 24, [.nilsl]⟩), (41, ⟨.struct [(0, 34), (3, 3), (4, 3), (5, 3), (6, 3), (7, 4)], 8, 64, [.int .i64 (.lit 0), .int .i64 (.lit 0), .int .i64 (.lit 0), .int .i64 (.lit 0), .int .i64 (.lit 0), .int .i64 (.lit 0), .int .i64 (.lit 0), .bool (.lit false)]⟩)]
theorem T_jetsamlaw17_few_ok : TabOk Try.prog T_jetsamlaw17_few := by
  have h : T_jetsamlaw17_few = tabOf Try.prog [3, 37, 41] := by kernel_rfl
  rw [h]; exact tabOk_of (by kernel_rfl)
theorem v_jetsamlaw17_few {y0 : List chain_Cand} {r : Bool} (h : jetsamlaw17_few y0 = some r) : AVal Try.prog [] 15 [(e_sl 8 e_chain_Cand) y0] (e_bool r) := by
  refine aval_of (c := ⟨T_jetsamlaw17_few, [], 59, [], []⟩) Try.func15 (by kernel_rfl) rfl rfl rfl T_jetsamlaw17_few_ok (eqsOk_of (by kernel_rfl)) Try_mixed rfl fun P hP _ => ?_
  unfold jetsamlaw17_few at h
  conv => cbv
  refine den_cut (r := r) (fun j1 : Unit => ⟨[(0, .sl 8 e_chain_Cand y0)], [], []⟩) (jetsamlaw17_few_K1 y0) ?_ (fun j1 h => ?_)
  · conv => cbv
    refine den_loop (jetsamlaw17_few_L1 y0) h (fun a2 : Int => ⟨[(0, .sl 8 e_chain_Cand y0), (3, .int .i64 (.v a2))], [], []⟩) ?_ (fun _ _ a2 x1 h hb1 hx1 => ?_)
    · intro j0 hj
      conv => cbv
      subst hj
      exact ⟨.same _, .int _ _ _ rfl, trivial⟩
    · unfold jetsamlaw17_few_L1 at h
      conv => cbv
      refine den_br h (fun _ h => ?_) (fun _ h => ?_)
      · conv => cbv
        refine den_elem h fun p3 _ h => ?_
        conv => cbv
        refine .mk ?_
        conv => cbv
        refine den_br h (fun _ h => ?_) (fun _ h => ?_)
        · conv => cbv
          refine .mk ?_
          conv => cbv
          refine .mk ?_
          conv => cbv
          refine .mk ?_
          conv => cbv
          refine .mk ?_
          conv => cbv
          refine .mk ?_
          conv => cbv
          refine .mk ?_
          conv => cbv
          replace h := den_out h hx1
          cases h
          exact .bool _ _ rfl
        · conv => cbv
          refine den_elem h fun p4 _ h => ?_
          conv => cbv
          refine .mk ?_
          conv => cbv
          refine .mk ?_
          conv => cbv
          refine den_br h (fun _ h => ?_) (fun _ h => ?_)
          · conv => cbv
            refine .mk ?_
            conv => cbv
            refine .mk ?_
            conv => cbv
            refine .mk ?_
            conv => cbv
            refine .mk ?_
            conv => cbv
            replace h := den_out h hx1
            cases h
            exact .bool _ _ rfl
          · conv => cbv
            refine den_elem h fun p5 _ h => ?_
            conv => cbv
            refine .mk ?_
            conv => cbv
            refine den_br h (fun _ h => ?_) (fun _ h => ?_)
            · conv => cbv
              refine .mk ?_
              conv => cbv
              refine .mk ?_
              conv => cbv
              refine .mk ?_
              conv => cbv
              replace h := den_out h hx1
              cases h
              exact .bool _ _ rfl
            · conv => cbv
              refine den_elem h fun p6 _ h => ?_
              conv => cbv
              refine .mk ?_
              conv => cbv
              refine den_br h (fun _ h => ?_) (fun _ h => ?_)
              · conv => cbv
                refine .mk ?_
                conv => cbv
                refine .mk ?_
                conv => cbv
                replace h := den_out h hx1
                cases h
                exact .bool _ _ rfl
              · conv => cbv
                refine den_elem h fun p7 _ h => ?_
                conv => cbv
                refine .mk ?_
                conv => cbv
                refine .mk ?_
                conv => cbv
                refine den_br h (fun _ h => ?_) (fun _ h => ?_)
                · conv => cbv
                  replace h := den_out h hx1
                  cases h
                  exact .bool _ _ rfl
                · conv => cbv
                  refine den_elem h fun p8 _ h => ?_
                  conv => cbv
                  refine den_br h (fun _ h => ?_) (fun _ h => ?_)
                  · conv => cbv
                    replace h := den_out h hx1
                    cases h
                    exact .bool _ _ rfl
                  · conv => cbv
                    refine den_back h hb1 fun j0 hj => ?_
                    conv => cbv
                    subst hj
                    exact ⟨.same _, .int _ _ _ rfl, trivial⟩
      · conv => cbv
        replace h := den_out h hx1
        refine den_join h fun j0 hj => ?_
        conv => cbv
        subst hj
        exact ⟨.same _, trivial⟩
  · unfold jetsamlaw17_few_K1 at h
    conv => cbv
    cases h
    exact .bool _ _ rfl
def T_infer_Where : Tab := [(3, ⟨.int .i64, 1, 8, [.int .i64 (.lit 0)]⟩), (4, ⟨.bool, 1, 1, [.bool (.lit false)]⟩), (25, ⟨.struct [(0, 3), (1, 3)], 2, 16, [.int .i64 (.lit 0), .int .i64 (.lit 0)]⟩), (36, ⟨.struct [(0, 34), (3, 4), (4, 3)], 5, 40, [.int .i64 (.lit 0), .int .i64 (.lit 0), .int .i64 (.lit 0), .bool (.lit false), .int .i64 (.lit 0)]⟩), (41, ⟨.struct [(0, 34), (3, 3), (4, 3), (5, 3), (6, 3), (7, 4)], 8, 64, [.int .i64 (.lit 0), .int .i64 (.lit 0), .int .i64 (.lit 0), .int .i64 (.lit 0), .int .i64 (.lit 0), .int .i64 (.lit 0), .int .i64 (.lit 0), .bool (.lit false)]⟩)]
theorem T_infer_Where_ok : TabOk Try.prog T_infer_Where := by
  have h : T_infer_Where = tabOf Try.prog [3, 4, 25, 36, 41] := by kernel_rfl
  rw [h]; exact tabOk_of (by kernel_rfl)
theorem v_infer_Where {y0 : chain_Guess} {y1 : chain_Cand} {r : infer_Range} (h : infer_Where y0 y1 = some r) : AVal Try.prog [] 16 [e_chain_Guess y0, e_chain_Cand y1] (e_infer_Range r) := by
  refine aval_of (c := ⟨T_infer_Where, [], 21, [], []⟩) Try.func16 (by kernel_rfl) rfl rfl rfl T_infer_Where_ok (eqsOk_of (by kernel_rfl)) Try_mixed rfl fun P hP _ => ?_
  unfold infer_Where at h
  conv => cbv
  refine den_cut (r := r) (fun j1 : Int => ⟨[(3, .ptr 3 0), (4, .ptr 4 0), (5, .int .i64 (.v j1))], [(3, .var [.int .i64 (.v y1.Params.Rate), .int .i64 (.v y1.Params.Channels), .int .i64 (.v y1.Params.Depth), .int .i64 (.v y1.Offset), .int .i64 (.v y1.Size), .int .i64 (.v y1.Number), .int .i64 (.v y1.Block), .bool (.v y1.Variable)]), (4, .var [.int .i64 (.lit 0), .int .i64 (.lit 0)])], []⟩) (infer_Where_K1 y1) ?_ (fun j1 h => ?_)
  · conv => cbv
    refine den_br h (fun _ h => ?_) (fun _ h => ?_)
    · conv => cbv
      refine den_join h fun j0 hj => ?_
      conv => cbv
      subst hj
      exact ⟨⟨.same _, .same _, trivial⟩, .same _, .same _, .int _ _ _ rfl, trivial⟩
    · conv => cbv
      refine den_join h fun j0 hj => ?_
      conv => cbv
      subst hj
      exact ⟨⟨.same _, .same _, trivial⟩, .same _, .same _, .int _ _ _ rfl, trivial⟩
  · unfold infer_Where_K1 at h
    conv => cbv
    refine .mk ?_
    conv => cbv
    cases h
    exact .agg _ _ (.cons _ _ _ _ (.int _ _ _ rfl) (.cons _ _ _ _ (.int _ _ _ rfl) .nil))
def T_infer_Covered : Tab := [(22, ⟨.slice 25, 1, 24, [.nilsl]⟩), (25, ⟨.struct [(0, 3), (1, 3)], 2, 16, [.int .i64 (.lit 0), .int .i64 (.lit 0)]⟩), (36, ⟨.struct [(0, 34), (3, 4), (4, 3)], 5, 40, [.int .i64 (.lit 0), .int .i64 (.lit 0), .int .i64 (.lit 0), .bool (.lit false), .int .i64 (.lit 0)]⟩), (37, ⟨.slice 41, 1, 24, [.nilsl]⟩), (41, ⟨.struct [(0, 34), (3, 3), (4, 3), (5, 3), (6, 3), (7, 4)], 8, 64, [.int .i64 (.lit 0), .int .i64 (.lit 0), .int .i64 (.lit 0), .int .i64 (.lit 0), .int .i64 (.lit 0), .int .i64 (.lit 0), .int .i64 (.lit 0), .bool (.lit false)]⟩)]
theorem T_infer_Covered_ok : TabOk Try.prog T_infer_Covered := by
  have h : T_infer_Covered = tabOf Try.prog [22, 25, 36, 37, 41] := by kernel_rfl
  rw [h]; exact tabOk_of (by kernel_rfl)
theorem v_infer_Covered {y0 : chain_Guess} {y1 : List chain_Cand} {r : List infer_Range} (h : infer_Covered y0 y1 = some r) : AVal Try.prog [] 17 [e_chain_Guess y0, (e_sl 8 e_chain_Cand) y1] ((e_sl 2 e_infer_Range) r) := by
  refine aval_of (c := ⟨T_infer_Covered, [], 23, [], []⟩) Try.func17 (by kernel_rfl) rfl rfl rfl T_infer_Covered_ok (eqsOk_of (by kernel_rfl)) Try_mixed rfl fun P hP _ => ?_
  unfold infer_Covered at h
  conv => cbv
  refine den_cut (r := r) (fun j1 : (List infer_Range) => ⟨[(5, .osl 19)], [(19, .arr false 25 2 e_infer_Range j1)], []⟩) infer_Covered_K1 ?_ (fun j1 h => ?_)
  · conv => cbv
    refine den_loop (infer_Covered_L1 y0 y1) h (fun a3 : Int × (List infer_Range) => ⟨[(2, .ptr 2 0), (5, .osl 19), (8, .sl 8 e_chain_Cand y1), (9, .int .i64 (.len y1)), (10, .int .i64 (.v a3.1))], [(2, .var [.int .i64 (.v y0.Params.Rate), .int .i64 (.v y0.Params.Channels), .int .i64 (.v y0.Params.Depth), .bool (.v y0.Variable), .int .i64 (.v y0.Block)]), (19, .arr false 25 2 e_infer_Range a3.2)], []⟩) ?_ (fun _ _ a3 x1 h hb1 hx1 => ?_)
    · intro j0 hj
      conv => cbv
      subst hj
      exact ⟨⟨.same _, .arr _ _ _ _ _ _ rfl, trivial⟩, .same _, .own _ _ _ _ _ _ rfl rfl, .same _, .same _, .int _ _ _ rfl, trivial⟩
    · unfold infer_Covered_L1 at h
      conv => cbv
      refine den_br h (fun _ h => ?_) (fun _ h => ?_)
      · conv => cbv
        refine den_elem h fun p4 _ h => ?_
        conv => cbv
        refine .mk ?_
        conv => cbv
        refine den_call e_infer_Range [e_chain_Guess y0, e_chain_Cand p4] h (fun _ h => hP ▸ v_infer_Where h) (.cons _ _ _ _ (.same _) (.cons _ _ _ _ (.same _) .nil)) rfl rfl (fun _ => rfl) fun r5 _ h => ?_
        conv => cbv
        refine den_app_own e_infer_Range (xs := [r5]) h rfl (News.sls (.cons _ _ _ _ (VEq.of_lepl (.cons _ _ _ _ (.same _) (.cons _ _ _ _ (.same _) .nil)) rfl) .nil)) fun l6 _ h => ?_
        conv => cbv
        refine den_back h hb1 fun j0 hj => ?_
        conv => cbv
        subst hj
        exact ⟨⟨.same _, .arr _ _ _ _ _ _ rfl, trivial⟩, .same _, .same _, .same _, .same _, .int _ _ _ rfl, trivial⟩
      · conv => cbv
        replace h := den_out h hx1
        refine den_join h fun j0 hj => ?_
        conv => cbv
        subst hj
        exact ⟨⟨.arr _ _ _ _ _ _ rfl, trivial⟩, .same _, trivial⟩
  · unfold infer_Covered_K1 at h
    conv => cbv
    refine den_call (e_sl 2 e_infer_Range) [(e_sl 2 e_infer_Range) j1] h (fun _ h => hP ▸ v_infer_Join h) (.cons _ _ _ _ (.same _) .nil) rfl rfl (fun _ => rfl) fun r2 _ h => ?_
    conv => cbv
    cases h
    exact .same _
def T_jetsamlaw17_InferWhere : Tab := [(3, ⟨.int .i64, 1, 8, [.int .i64 (.lit 0)]⟩), (4, ⟨.bool, 1, 1, [.bool (.lit false)]⟩), (22, ⟨.slice 25, 1, 24, [.nilsl]⟩), (25, ⟨.struct [(0, 3), (1, 3)], 2, 16, [.int .i64 (.lit 0), .int .i64 (.lit 0)]⟩), (36, ⟨.struct [(0, 34), (3, 4), (4, 3)], 5, 40, [.int .i64 (.lit 0), .int .i64 (.lit 0), .int .i64 (.lit 0), .bool (.lit false), .int .i64 (.lit 0)]⟩), (37, ⟨.slice 41, 1, 24, [.nilsl]⟩), (41, ⟨.struct [(0, 34), (3, 3), (4, 3), (5, 3), (6, 3), (7, 4)], 8, 64, [.int .i64 (.lit 0), .int .i64 (.lit 0), .int .i64 (.lit 0), .int .i64 (.lit 0), .int .i64 (.lit 0), .int .i64 (.lit 0), .int .i64 (.lit 0), .bool (.lit false)]⟩)]
theorem T_jetsamlaw17_InferWhere_ok : TabOk Try.prog T_jetsamlaw17_InferWhere := by
  have h : T_jetsamlaw17_InferWhere = tabOf Try.prog [3, 4, 22, 25, 36, 37, 41] := by kernel_rfl
  rw [h]; exact tabOk_of (by kernel_rfl)
theorem v_jetsamlaw17_InferWhere {y0 : chain_Guess} {y1 : List chain_Cand} {r : Bool} (h : jetsamlaw17_InferWhere y0 y1 = some r) : AVal Try.prog [] 5 [e_chain_Guess y0, (e_sl 8 e_chain_Cand) y1] (e_bool r) := by
  refine aval_of (c := ⟨T_jetsamlaw17_InferWhere, [], 71, [], [(25, [.i, .i])]⟩) Try.func5 (by kernel_rfl) rfl rfl rfl T_jetsamlaw17_InferWhere_ok (eqsOk_of (by kernel_rfl)) Try_mixed rfl fun P hP _ => ?_
  unfold jetsamlaw17_InferWhere at h
  conv => cbv
  refine .mk ?_
  conv => cbv
  refine den_call e_bool [(e_sl 8 e_chain_Cand) y1] h (fun _ h => hP ▸ v_jetsamlaw17_few h) (.cons _ _ _ _ (.same _) .nil) rfl rfl (fun _ => rfl) fun r1 _ h => ?_
  conv => cbv
  refine .mk ?_
  conv => cbv
  refine den_br h (fun _ h => ?_) (fun _ h => ?_)
  · conv => cbv
    refine den_call e_bool [] h (fun _ h => hP ▸ v_jetsamlaw17_awake h) .nil rfl rfl (fun _ => rfl) fun r2 _ h => ?_
    conv => cbv
    cases h
    exact .same _
  · conv => cbv
    refine den_cut (r := r) (fun j3 : (List infer_Range) => ⟨[(1, .sl 8 e_chain_Cand y1), (2, .ptr 2 0), (5, .osl 61)], [(2, .var [.int .i64 (.v y0.Params.Rate), .int .i64 (.v y0.Params.Channels), .int .i64 (.v y0.Params.Depth), .bool (.v y0.Variable), .int .i64 (.v y0.Block)]), (61, .arr false 25 2 e_infer_Range j3)], []⟩) (jetsamlaw17_InferWhere_K1 y0 y1) ?_ (fun j3 h => ?_)
    · conv => cbv
      refine den_loop (jetsamlaw17_InferWhere_L1 y0 y1) h (fun a8 : Int × (List infer_Range) => ⟨[(1, .sl 8 e_chain_Cand y1), (2, .ptr 2 0), (5, .osl 61), (6, .int .i64 (.v a8.1))], [(2, .var [.int .i64 (.v y0.Params.Rate), .int .i64 (.v y0.Params.Channels), .int .i64 (.v y0.Params.Depth), .bool (.v y0.Variable), .int .i64 (.v y0.Block)]), (61, .arr false 25 2 e_infer_Range a8.2)], []⟩) ?_ (fun _ _ a8 x1 h hb1 hx1 => ?_)
      · intro j0 hj
        conv => cbv
        subst hj
        exact ⟨⟨.same _, .arr _ _ _ _ _ _ rfl, trivial⟩, .same _, .same _, .own _ _ _ _ _ _ rfl rfl, .int _ _ _ rfl, trivial⟩
      · unfold jetsamlaw17_InferWhere_L1 at h
        conv => cbv
        refine den_br h (fun _ h => ?_) (fun _ h => ?_)
        · conv => cbv
          refine .mk (by kernel_rfl) ?_
          conv => cbv
          refine den_elem h fun p9 _ h => ?_
          conv => cbv
          refine ⟨?_, ?_⟩
          · refine .mk ?_
            conv => cbv
            refine ⟨?_, ?_⟩
            · refine den_call e_infer_Range [e_chain_Guess y0, e_chain_Cand p9] h (fun _ h => hP ▸ v_infer_Where h) (.cons _ _ _ _ (.same _) (.cons _ _ _ _ (.same _) .nil)) rfl rfl (fun _ => rfl) fun r10 _ h => ?_
              conv => cbv
              refine .mk ?_
              conv => cbv
              refine den_elem h fun p11 _ h => ?_
              conv => cbv
              refine den_cut (r := x1) (fun j12 : Int => ⟨[(1, .sl 8 e_chain_Cand y1), (2, .ptr 2 0), (5, .osl 61), (6, .int .i64 (.v a8.1)), (7, .ptr 7 0), (8, .int .i64 (.v j12))], [(2, .var [.int .i64 (.v y0.Params.Rate), .int .i64 (.v y0.Params.Channels), .int .i64 (.v y0.Params.Depth), .bool (.v y0.Variable), .int .i64 (.v y0.Block)]), (7, .var [.int .i64 (.v r10.From), .int .i64 (.v r10.To)]), (61, .arr false 25 2 e_infer_Range a8.2)], []⟩) (jetsamlaw17_InferWhere_K2 y1 a8 r10) ?_ (fun j12 h => ?_)
              · conv => cbv
                refine den_br h (fun _ h => ?_) (fun _ h => ?_)
                · conv => cbv
                  refine den_join h fun j0 hj => ?_
                  conv => cbv
                  subst hj
                  exact ⟨⟨.same _, .same _, .same _, trivial⟩, .same _, .same _, .same _, .same _, .same _, .int _ _ _ rfl, trivial⟩
                · conv => cbv
                  refine den_join h fun j0 hj => ?_
                  conv => cbv
                  subst hj
                  exact ⟨⟨.same _, .same _, .same _, trivial⟩, .same _, .same _, .same _, .same _, .same _, .int _ _ _ rfl, trivial⟩
              · unfold jetsamlaw17_InferWhere_K2 at h
                conv => cbv
                refine .mk (by kernel_rfl) ?_
                conv => cbv
                refine .mk ?_
                conv => cbv
                refine den_elem h fun p13 _ h => ?_
                conv => cbv
                refine den_br h (fun _ h => ?_) (fun _ h => ?_)
                · conv => cbv
                  replace h := den_out h hx1
                  cases h
                  exact .bool _ _ rfl
                · conv => cbv
                  refine den_app_own e_infer_Range (xs := [r10]) h rfl (News.sls (.cons _ _ _ _ (VEq.of_lepl (.cons _ _ _ _ (.same _) (.cons _ _ _ _ (.same _) .nil)) rfl) .nil)) fun l14 _ h => ?_
                  conv => cbv
                  refine den_back h hb1 fun j0 hj => ?_
                  conv => cbv
                  subst hj
                  exact ⟨⟨.same _, .arr _ _ _ _ _ _ rfl, trivial⟩, .same _, .same _, .same _, .int _ _ _ rfl, trivial⟩
            · refine den_call e_infer_Range [e_chain_Guess y0, e_chain_Cand p9] h (fun _ h => hP ▸ v_infer_Where h) (.cons _ _ _ _ (.same _) (.cons _ _ _ _ (.same _) .nil)) rfl rfl (fun _ => rfl) fun r15 _ h => ?_
              conv => cbv
              refine .mk ?_
              conv => cbv
              refine den_elem h fun p16 _ h => ?_
              conv => cbv
              refine den_cut (r := x1) (fun j17 : Int => ⟨[(1, .sl 8 e_chain_Cand y1), (2, .ptr 2 0), (5, .osl 61), (6, .int .i64 (.v a8.1)), (7, .ptr 7 0), (8, .int .i64 (.v j17))], [(2, .var [.int .i64 (.v y0.Params.Rate), .int .i64 (.v y0.Params.Channels), .int .i64 (.v y0.Params.Depth), .bool (.v y0.Variable), .int .i64 (.v y0.Block)]), (7, .var [.int .i64 (.v r15.From), .int .i64 (.v r15.To)]), (61, .arr false 25 2 e_infer_Range a8.2)], []⟩) (jetsamlaw17_InferWhere_K2 y1 a8 r15) ?_ (fun j17 h => ?_)
              · conv => cbv
                refine den_br h (fun _ h => ?_) (fun _ h => ?_)
                · conv => cbv
                  refine den_join h fun j0 hj => ?_
                  conv => cbv
                  subst hj
                  exact ⟨⟨.same _, .same _, .same _, trivial⟩, .same _, .same _, .same _, .same _, .same _, .int _ _ _ rfl, trivial⟩
                · conv => cbv
                  refine den_join h fun j0 hj => ?_
                  conv => cbv
                  subst hj
                  exact ⟨⟨.same _, .same _, .same _, trivial⟩, .same _, .same _, .same _, .same _, .same _, .int _ _ _ rfl, trivial⟩
              · unfold jetsamlaw17_InferWhere_K2 at h
                conv => cbv
                refine .mk (by kernel_rfl) ?_
                conv => cbv
                refine .mk ?_
                conv => cbv
                refine den_elem h fun p18 _ h => ?_
                conv => cbv
                refine den_br h (fun _ h => ?_) (fun _ h => ?_)
                · conv => cbv
                  replace h := den_out h hx1
                  cases h
                  exact .bool _ _ rfl
                · conv => cbv
                  refine den_app_own e_infer_Range (xs := [r15]) h rfl (News.sls (.cons _ _ _ _ (VEq.of_lepl (.cons _ _ _ _ (.same _) (.cons _ _ _ _ (.same _) .nil)) rfl) .nil)) fun l19 _ h => ?_
                  conv => cbv
                  refine den_back h hb1 fun j0 hj => ?_
                  conv => cbv
                  subst hj
                  exact ⟨⟨.same _, .arr _ _ _ _ _ _ rfl, trivial⟩, .same _, .same _, .same _, .int _ _ _ rfl, trivial⟩
          · refine .mk ?_
            conv => cbv
            refine den_call e_infer_Range [e_chain_Guess y0, e_chain_Cand p9] h (fun _ h => hP ▸ v_infer_Where h) (.cons _ _ _ _ (.same _) (.cons _ _ _ _ (.same _) .nil)) rfl rfl (fun _ => rfl) fun r20 _ h => ?_
            conv => cbv
            refine .mk ?_
            conv => cbv
            refine den_elem h fun p21 _ h => ?_
            conv => cbv
            refine den_cut (r := x1) (fun j22 : Int => ⟨[(1, .sl 8 e_chain_Cand y1), (2, .ptr 2 0), (5, .osl 61), (6, .int .i64 (.v a8.1)), (7, .ptr 7 0), (8, .int .i64 (.v j22))], [(2, .var [.int .i64 (.v y0.Params.Rate), .int .i64 (.v y0.Params.Channels), .int .i64 (.v y0.Params.Depth), .bool (.v y0.Variable), .int .i64 (.v y0.Block)]), (7, .var [.int .i64 (.v r20.From), .int .i64 (.v r20.To)]), (61, .arr false 25 2 e_infer_Range a8.2)], []⟩) (jetsamlaw17_InferWhere_K2 y1 a8 r20) ?_ (fun j22 h => ?_)
            · conv => cbv
              refine den_br h (fun _ h => ?_) (fun _ h => ?_)
              · conv => cbv
                refine den_join h fun j0 hj => ?_
                conv => cbv
                subst hj
                exact ⟨⟨.same _, .same _, .same _, trivial⟩, .same _, .same _, .same _, .same _, .same _, .int _ _ _ rfl, trivial⟩
              · conv => cbv
                refine den_join h fun j0 hj => ?_
                conv => cbv
                subst hj
                exact ⟨⟨.same _, .same _, .same _, trivial⟩, .same _, .same _, .same _, .same _, .same _, .int _ _ _ rfl, trivial⟩
            · unfold jetsamlaw17_InferWhere_K2 at h
              conv => cbv
              refine .mk (by kernel_rfl) ?_
              conv => cbv
              refine .mk ?_
              conv => cbv
              refine den_elem h fun p23 _ h => ?_
              conv => cbv
              refine den_br h (fun _ h => ?_) (fun _ h => ?_)
              · conv => cbv
                replace h := den_out h hx1
                cases h
                exact .bool _ _ rfl
              · conv => cbv
                refine den_app_own e_infer_Range (xs := [r20]) h rfl (News.sls (.cons _ _ _ _ (VEq.of_lepl (.cons _ _ _ _ (.same _) (.cons _ _ _ _ (.same _) .nil)) rfl) .nil)) fun l24 _ h => ?_
                conv => cbv
                refine den_back h hb1 fun j0 hj => ?_
                conv => cbv
                subst hj
                exact ⟨⟨.same _, .arr _ _ _ _ _ _ rfl, trivial⟩, .same _, .same _, .same _, .int _ _ _ rfl, trivial⟩
        · conv => cbv
          replace h := den_out h hx1
          refine den_join h fun j0 hj => ?_
          conv => cbv
          subst hj
          exact ⟨⟨.same _, .arr _ _ _ _ _ _ rfl, trivial⟩, .same _, .same _, .same _, trivial⟩
    · unfold jetsamlaw17_InferWhere_K1 at h
      conv => cbv
      refine den_call (e_sl 2 e_infer_Range) [e_chain_Guess y0, (e_sl 8 e_chain_Cand) y1] h (fun _ h => hP ▸ v_infer_Covered h) (.cons _ _ _ _ (.same _) (.cons _ _ _ _ (.same _) .nil)) rfl rfl (fun _ => rfl) fun r4 _ h => ?_
      conv => cbv
      refine .mk ?_
      conv => cbv
      refine den_call (e_sl 2 e_infer_Range) [(e_sl 2 e_infer_Range) j3] h (fun _ h => hP ▸ v_infer_Join h) (.cons _ _ _ _ (.same _) .nil) rfl rfl (fun _ => rfl) fun r5 _ h => ?_
      conv => cbv
      refine den_call e_bool [(e_sl 2 e_infer_Range) r4, (e_sl 2 e_infer_Range) r5] h (fun _ h => hP ▸ v_jetsamlaw17_Ranges h) (.cons _ _ _ _ (.same _) (.cons _ _ _ _ (.same _) .nil)) rfl rfl (fun _ => rfl) fun r6 _ h => ?_
      conv => cbv
      refine den_br h (fun _ h => ?_) (fun _ h => ?_)
      · conv => cbv
        refine den_call e_bool [] h (fun _ h => hP ▸ v_jetsamlaw17_awake h) .nil rfl rfl (fun _ => rfl) fun r7 _ h => ?_
        conv => cbv
        cases h
        exact .same _
      · conv => cbv
        cases h
        exact .bool _ _ rfl
def T_info_within : Tab := []
theorem T_info_within_ok : TabOk Try.prog T_info_within := by
  have h : T_info_within = tabOf Try.prog [] := by kernel_rfl
  rw [h]; exact tabOk_of (by kernel_rfl)
theorem v_info_within {y0 : Int} {y1 : Int} {y2 : Int} {r : Bool} (h : info_within y0 y1 y2 = some r) : AVal Try.prog [] 31 [e_i64 y0, e_i64 y1, e_i64 y2] (e_bool r) := by
  refine aval_of (c := ⟨T_info_within, [], 15, [], []⟩) Try.func31 (by kernel_rfl) rfl rfl rfl T_info_within_ok (eqsOk_of (by kernel_rfl)) Try_mixed rfl fun P hP _ => ?_
  unfold info_within at h
  conv => cbv
  refine .mk ?_
  conv => cbv
  cases h
  exact .bool _ _ rfl
def T_info_Check : Tab := [(3, ⟨.int .i64, 1, 8, [.int .i64 (.lit 0)]⟩), (34, ⟨.struct [(0, 3), (1, 3), (2, 3)], 3, 24, [.int .i64 (.lit 0), .int .i64 (.lit 0), .int .i64 (.lit 0)]⟩), (54, ⟨.struct [(0, 34), (3, 3), (4, 3), (5, 3), (6, 3), (7, 3), (8, 52)], 24, 80, [.int .i64 (.lit 0), .int .i64 (.lit 0), .int .i64 (.lit 0), .int .i64 (.lit 0), .int .i64 (.lit 0), .int .i64 (.lit 0), .int .i64 (.lit 0), .int .i64 (.lit 0), .int .u8 (.lit 0), .int .u8 (.lit 0), .int .u8 (.lit 0), .int .u8 (.lit 0), .int .u8 (.lit 0), .int .u8 (.lit 0), .int .u8 (.lit 0), .int .u8 (.lit 0), .int .u8 (.lit 0), .int .u8 (.lit 0), .int .u8 (.lit 0), .int .u8 (.lit 0), .int .u8 (.lit 0), .int .u8 (.lit 0), .int .u8 (.lit 0), .int .u8 (.lit 0)]⟩)]
theorem T_info_Check_ok : TabOk Try.prog T_info_Check := by
  have h : T_info_Check = tabOf Try.prog [3, 34, 54] := by kernel_rfl
  rw [h]; exact tabOk_of (by kernel_rfl)
theorem v_info_Check {y0 : info_Info} {r : Int} (h : info_Check y0 = some r) : AVal Try.prog [] 20 [e_info_Info y0] (e_i64 r) := by
  refine aval_of (c := ⟨T_info_Check, [], 74, [], []⟩) Try.func20 (by kernel_rfl) rfl rfl rfl T_info_Check_ok (eqsOk_of (by kernel_rfl)) Try_mixed rfl fun P hP _ => ?_
  unfold info_Check at h
  conv => cbv
  refine den_cut (r := r) (fun j1 : Bool => ⟨[(1, .ptr 1 0), (3, .bool (.v j1))], [(1, .var [.int .i64 (.v y0.Params.Rate), .int .i64 (.v y0.Params.Channels), .int .i64 (.v y0.Params.Depth), .int .i64 (.v y0.MinBlock), .int .i64 (.v y0.MaxBlock), .int .i64 (.v y0.MinFrame), .int .i64 (.v y0.MaxFrame), .int .i64 (.v y0.Total), .int .u8 (.v (y0.Sum 0)), .int .u8 (.v (y0.Sum 1)), .int .u8 (.v (y0.Sum 2)), .int .u8 (.v (y0.Sum 3)), .int .u8 (.v (y0.Sum 4)), .int .u8 (.v (y0.Sum 5)), .int .u8 (.v (y0.Sum 6)), .int .u8 (.v (y0.Sum 7)), .int .u8 (.v (y0.Sum 8)), .int .u8 (.v (y0.Sum 9)), .int .u8 (.v (y0.Sum 10)), .int .u8 (.v (y0.Sum 11)), .int .u8 (.v (y0.Sum 12)), .int .u8 (.v (y0.Sum 13)), .int .u8 (.v (y0.Sum 14)), .int .u8 (.v (y0.Sum 15))])], []⟩) (info_Check_K1 y0) ?_ (fun j1 h => ?_)
  · conv => cbv
    refine den_call e_bool [e_i64 y0.Params.Rate, e_i64 (1 : Int), e_i64 (1048575 : Int)] h (fun _ h => hP ▸ v_info_within h) (.cons _ _ _ _ (.same _) (.cons _ _ _ _ (.int _ _ _ rfl) (.cons _ _ _ _ (.int _ _ _ rfl) .nil))) rfl rfl (fun _ => rfl) fun r9 _ h => ?_
    conv => cbv
    refine .mk ?_
    conv => cbv
    refine den_br h (fun _ h => ?_) (fun _ h => ?_)
    · conv => cbv
      refine den_call e_bool [e_i64 y0.Params.Channels, e_i64 (1 : Int), e_i64 (8 : Int)] h (fun _ h => hP ▸ v_info_within h) (.cons _ _ _ _ (.same _) (.cons _ _ _ _ (.int _ _ _ rfl) (.cons _ _ _ _ (.int _ _ _ rfl) .nil))) rfl rfl (fun _ => rfl) fun r10 _ h => ?_
      conv => cbv
      refine .mk ?_
      conv => cbv
      refine den_br h (fun _ h => ?_) (fun _ h => ?_)
      · conv => cbv
        refine den_call e_bool [e_i64 y0.Params.Depth, e_i64 (4 : Int), e_i64 (32 : Int)] h (fun _ h => hP ▸ v_info_within h) (.cons _ _ _ _ (.same _) (.cons _ _ _ _ (.int _ _ _ rfl) (.cons _ _ _ _ (.int _ _ _ rfl) .nil))) rfl rfl (fun _ => rfl) fun r11 _ h => ?_
        conv => cbv
        refine den_join h fun j0 hj => ?_
        conv => cbv
        subst hj
        exact ⟨⟨.same _, trivial⟩, .same _, .bool _ _ rfl, trivial⟩
      · conv => cbv
        refine den_join h fun j0 hj => ?_
        conv => cbv
        subst hj
        exact ⟨⟨.same _, trivial⟩, .same _, .bool _ _ rfl, trivial⟩
    · conv => cbv
      refine .mk ?_
      conv => cbv
      refine den_join h fun j0 hj => ?_
      conv => cbv
      subst hj
      exact ⟨⟨.same _, trivial⟩, .same _, .bool _ _ rfl, trivial⟩
  · unfold info_Check_K1 at h
    conv => cbv
    refine den_cut (r := r) (fun j2 : Bool => ⟨[(1, .ptr 1 0), (3, .bool (.v j1)), (4, .bool (.v j2))], [(1, .var [.int .i64 (.v y0.Params.Rate), .int .i64 (.v y0.Params.Channels), .int .i64 (.v y0.Params.Depth), .int .i64 (.v y0.MinBlock), .int .i64 (.v y0.MaxBlock), .int .i64 (.v y0.MinFrame), .int .i64 (.v y0.MaxFrame), .int .i64 (.v y0.Total), .int .u8 (.v (y0.Sum 0)), .int .u8 (.v (y0.Sum 1)), .int .u8 (.v (y0.Sum 2)), .int .u8 (.v (y0.Sum 3)), .int .u8 (.v (y0.Sum 4)), .int .u8 (.v (y0.Sum 5)), .int .u8 (.v (y0.Sum 6)), .int .u8 (.v (y0.Sum 7)), .int .u8 (.v (y0.Sum 8)), .int .u8 (.v (y0.Sum 9)), .int .u8 (.v (y0.Sum 10)), .int .u8 (.v (y0.Sum 11)), .int .u8 (.v (y0.Sum 12)), .int .u8 (.v (y0.Sum 13)), .int .u8 (.v (y0.Sum 14)), .int .u8 (.v (y0.Sum 15))])], []⟩) (info_Check_K2 y0 j1) ?_ (fun j2 h => ?_)
    · conv => cbv
      refine den_call e_bool [e_i64 y0.MinBlock, e_i64 (16 : Int), e_i64 (65535 : Int)] h (fun _ h => hP ▸ v_info_within h) (.cons _ _ _ _ (.same _) (.cons _ _ _ _ (.int _ _ _ rfl) (.cons _ _ _ _ (.int _ _ _ rfl) .nil))) rfl rfl (fun _ => rfl) fun r7 _ h => ?_
      conv => cbv
      refine .mk ?_
      conv => cbv
      refine den_br h (fun _ h => ?_) (fun _ h => ?_)
      · conv => cbv
        refine den_call e_bool [e_i64 y0.MaxBlock, e_i64 y0.MinBlock, e_i64 (65535 : Int)] h (fun _ h => hP ▸ v_info_within h) (.cons _ _ _ _ (.same _) (.cons _ _ _ _ (.same _) (.cons _ _ _ _ (.int _ _ _ rfl) .nil))) rfl rfl (fun _ => rfl) fun r8 _ h => ?_
        conv => cbv
        refine den_join h fun j0 hj => ?_
        conv => cbv
        subst hj
        exact ⟨⟨.same _, trivial⟩, .same _, .same _, .bool _ _ rfl, trivial⟩
      · conv => cbv
        refine den_join h fun j0 hj => ?_
        conv => cbv
        subst hj
        exact ⟨⟨.same _, trivial⟩, .same _, .same _, .bool _ _ rfl, trivial⟩
    · unfold info_Check_K2 at h
      conv => cbv
      refine den_cut (r := r) (fun j3 : Bool => ⟨[(1, .ptr 1 0), (3, .bool (.v j1)), (4, .bool (.v j2)), (5, .bool (.v j3))], [(1, .var [.int .i64 (.v y0.Params.Rate), .int .i64 (.v y0.Params.Channels), .int .i64 (.v y0.Params.Depth), .int .i64 (.v y0.MinBlock), .int .i64 (.v y0.MaxBlock), .int .i64 (.v y0.MinFrame), .int .i64 (.v y0.MaxFrame), .int .i64 (.v y0.Total), .int .u8 (.v (y0.Sum 0)), .int .u8 (.v (y0.Sum 1)), .int .u8 (.v (y0.Sum 2)), .int .u8 (.v (y0.Sum 3)), .int .u8 (.v (y0.Sum 4)), .int .u8 (.v (y0.Sum 5)), .int .u8 (.v (y0.Sum 6)), .int .u8 (.v (y0.Sum 7)), .int .u8 (.v (y0.Sum 8)), .int .u8 (.v (y0.Sum 9)), .int .u8 (.v (y0.Sum 10)), .int .u8 (.v (y0.Sum 11)), .int .u8 (.v (y0.Sum 12)), .int .u8 (.v (y0.Sum 13)), .int .u8 (.v (y0.Sum 14)), .int .u8 (.v (y0.Sum 15))])], []⟩) (info_Check_K3 y0 j1 j2) ?_ (fun j3 h => ?_)
      · conv => cbv
        refine den_call e_bool [e_i64 y0.MinFrame, e_i64 (0 : Int), e_i64 (16777215 : Int)] h (fun _ h => hP ▸ v_info_within h) (.cons _ _ _ _ (.same _) (.cons _ _ _ _ (.int _ _ _ rfl) (.cons _ _ _ _ (.int _ _ _ rfl) .nil))) rfl rfl (fun _ => rfl) fun r5 _ h => ?_
        conv => cbv
        refine .mk ?_
        conv => cbv
        refine den_br h (fun _ h => ?_) (fun _ h => ?_)
        · conv => cbv
          refine den_call e_bool [e_i64 y0.MaxFrame, e_i64 (0 : Int), e_i64 (16777215 : Int)] h (fun _ h => hP ▸ v_info_within h) (.cons _ _ _ _ (.same _) (.cons _ _ _ _ (.int _ _ _ rfl) (.cons _ _ _ _ (.int _ _ _ rfl) .nil))) rfl rfl (fun _ => rfl) fun r6 _ h => ?_
          conv => cbv
          refine den_join h fun j0 hj => ?_
          conv => cbv
          subst hj
          exact ⟨⟨.same _, trivial⟩, .same _, .same _, .same _, .bool _ _ rfl, trivial⟩
        · conv => cbv
          refine den_join h fun j0 hj => ?_
          conv => cbv
          subst hj
          exact ⟨⟨.same _, trivial⟩, .same _, .same _, .same _, .bool _ _ rfl, trivial⟩
      · unfold info_Check_K3 at h
        conv => cbv
        refine .mk ?_
        conv => cbv
        refine .mk ?_
        conv => cbv
        refine .mk ?_
        conv => cbv
        refine .mk ?_
        conv => cbv
        refine .mk ?_
        conv => cbv
        refine den_br h (fun _ h => ?_) (fun _ h => ?_)
        · conv => cbv
          cases h
          exact .int _ _ _ rfl
        · conv => cbv
          refine den_call e_bool [e_i64 y0.Total, e_i64 (0 : Int), e_i64 (68719476735 : Int)] h (fun _ h => hP ▸ v_info_within h) (.cons _ _ _ _ (.same _) (.cons _ _ _ _ (.int _ _ _ rfl) (.cons _ _ _ _ (.int _ _ _ rfl) .nil))) rfl rfl (fun _ => rfl) fun r4 _ h => ?_
          conv => cbv
          refine den_br h (fun _ h => ?_) (fun _ h => ?_)
          · conv => cbv
            cases h
            exact .int _ _ _ rfl
          · conv => cbv
            cases h
            exact .int _ _ _ rfl
def T_infer_Trust : Tab := [(3, ⟨.int .i64, 1, 8, [.int .i64 (.lit 0)]⟩), (25, ⟨.struct [(0, 3), (1, 3)], 2, 16, [.int .i64 (.lit 0), .int .i64 (.lit 0)]⟩), (34, ⟨.struct [(0, 3), (1, 3), (2, 3)], 3, 24, [.int .i64 (.lit 0), .int .i64 (.lit 0), .int .i64 (.lit 0)]⟩), (36, ⟨.struct [(0, 34), (3, 4), (4, 3)], 5, 40, [.int .i64 (.lit 0), .int .i64 (.lit 0), .int .i64 (.lit 0), .bool (.lit false), .int .i64 (.lit 0)]⟩), (37, ⟨.slice 41, 1, 24, [.nilsl]⟩), (41, ⟨.struct [(0, 34), (3, 3), (4, 3), (5, 3), (6, 3), (7, 4)], 8, 64, [.int .i64 (.lit 0), .int .i64 (.lit 0), .int .i64 (.lit 0), .int .i64 (.lit 0), .int .i64 (.lit 0), .int .i64 (.lit 0), .int .i64 (.lit 0), .bool (.lit false)]⟩), (54, ⟨.struct [(0, 34), (3, 3), (4, 3), (5, 3), (6, 3), (7, 3), (8, 52)], 24, 80, [.int .i64 (.lit 0), .int .i64 (.lit 0), .int .i64 (.lit 0), .int .i64 (.lit 0), .int .i64 (.lit 0), .int .i64 (.lit 0), .int .i64 (.lit 0), .int .i64 (.lit 0), .int .u8 (.lit 0), .int .u8 (.lit 0), .int .u8 (.lit 0), .int .u8 (.lit 0), .int .u8 (.lit 0), .int .u8 (.lit 0), .int .u8 (.lit 0), .int .u8 (.lit 0), .int .u8 (.lit 0), .int .u8 (.lit 0), .int .u8 (.lit 0), .int .u8 (.lit 0), .int .u8 (.lit 0), .int .u8 (.lit 0), .int .u8 (.lit 0), .int .u8 (.lit 0)]⟩)]
theorem T_infer_Trust_ok : TabOk Try.prog T_infer_Trust := by
  have h : T_infer_Trust = tabOf Try.prog [3, 25, 34, 36, 37, 41, 54] := by kernel_rfl
  rw [h]; exact tabOk_of (by kernel_rfl)
theorem v_infer_Trust {y0 : info_Info} {y1 : chain_Guess} {y2 : List chain_Cand} {r : Int} (h : infer_Trust y0 y1 y2 = some r) : AVal Try.prog [] 21 [e_info_Info y0, e_chain_Guess y1, (e_sl 8 e_chain_Cand) y2] (e_i64 r) := by
  refine aval_of (c := ⟨T_infer_Trust, [], 92, [], [(34, [.i, .i, .i])]⟩) Try.func21 (by kernel_rfl) rfl rfl rfl T_infer_Trust_ok (eqsOk_of (by kernel_rfl)) Try_mixed rfl fun P hP _ => ?_
  unfold infer_Trust at h
  conv => cbv
  refine den_br h (fun _ h => ?_) (fun _ h => ?_)
  · conv => cbv
    cases h
    exact .int _ _ _ rfl
  · conv => cbv
    refine den_call e_i64 [e_info_Info y0] h (fun _ h => hP ▸ v_info_Check h) (.cons _ _ _ _ (.same _) .nil) rfl rfl (fun _ => rfl) fun r1 _ h => ?_
    conv => cbv
    refine den_br h (fun _ h => ?_) (fun _ h => ?_)
    · conv => cbv
      cases h
      exact .same _
    · conv => cbv
      refine den_br h (fun _ h => ?_) (fun _ h => ?_)
      · conv => cbv
        cases h
        exact .int _ _ _ rfl
      · conv => cbv
        refine den_cut (r := r) (fun j2 : Unit => ⟨[], [], []⟩) infer_Trust_K1 ?_ (fun j2 h => ?_)
        · conv => cbv
          refine den_loop (infer_Trust_L1 y0 y1 y2) h (fun a3 : Int => ⟨[(2, .sl 8 e_chain_Cand y2), (3, .ptr 3 0), (4, .ptr 4 0), (25, .sl 8 e_chain_Cand y2), (26, .int .i64 (.len y2)), (27, .int .i64 (.v a3))], [(3, .var [.int .i64 (.v y0.Params.Rate), .int .i64 (.v y0.Params.Channels), .int .i64 (.v y0.Params.Depth), .int .i64 (.v y0.MinBlock), .int .i64 (.v y0.MaxBlock), .int .i64 (.v y0.MinFrame), .int .i64 (.v y0.MaxFrame), .int .i64 (.v y0.Total), .int .u8 (.v (y0.Sum 0)), .int .u8 (.v (y0.Sum 1)), .int .u8 (.v (y0.Sum 2)), .int .u8 (.v (y0.Sum 3)), .int .u8 (.v (y0.Sum 4)), .int .u8 (.v (y0.Sum 5)), .int .u8 (.v (y0.Sum 6)), .int .u8 (.v (y0.Sum 7)), .int .u8 (.v (y0.Sum 8)), .int .u8 (.v (y0.Sum 9)), .int .u8 (.v (y0.Sum 10)), .int .u8 (.v (y0.Sum 11)), .int .u8 (.v (y0.Sum 12)), .int .u8 (.v (y0.Sum 13)), .int .u8 (.v (y0.Sum 14)), .int .u8 (.v (y0.Sum 15))]), (4, .var [.int .i64 (.v y1.Params.Rate), .int .i64 (.v y1.Params.Channels), .int .i64 (.v y1.Params.Depth), .bool (.v y1.Variable), .int .i64 (.v y1.Block)])], []⟩) ?_ (fun _ _ a3 x1 h hb1 hx1 => ?_)
          · intro j0 hj
            conv => cbv
            subst hj
            exact ⟨⟨.same _, .same _, trivial⟩, .same _, .same _, .same _, .same _, .same _, .int _ _ _ rfl, trivial⟩
          · unfold infer_Trust_L1 at h
            conv => cbv
            refine den_br h (fun _ h => ?_) (fun _ h => ?_)
            · conv => cbv
              refine .mk ?_
              conv => cbv
              refine den_elem h fun p4 _ h => ?_
              conv => cbv
              refine .mk ?_
              conv => cbv
              refine .mk ?_
              conv => cbv
              refine .mk ?_
              conv => cbv
              refine .mk ?_
              conv => cbv
              refine den_cut (r := x1) (fun j5 : Bool => ⟨[(2, .sl 8 e_chain_Cand y2), (3, .ptr 3 0), (4, .ptr 4 0), (10, .bool (.ite (.ite (.cmp .lss (.v a3) (.ar .sub .i64 (.len y2) (.lit 1))) (.cmp .lss (.v p4.Block) (.v y0.MinBlock)) (.lit false)) (.lit true) (.ite (.cmp .gtr (.v y0.MinFrame) (.lit 0)) (.cmp .lss (.v p4.Size) (.v y0.MinFrame)) (.lit false)))), (11, .bool (.v j5)), (25, .sl 8 e_chain_Cand y2), (26, .int .i64 (.len y2)), (27, .int .i64 (.v a3))], [(3, .var [.int .i64 (.v y0.Params.Rate), .int .i64 (.v y0.Params.Channels), .int .i64 (.v y0.Params.Depth), .int .i64 (.v y0.MinBlock), .int .i64 (.v y0.MaxBlock), .int .i64 (.v y0.MinFrame), .int .i64 (.v y0.MaxFrame), .int .i64 (.v y0.Total), .int .u8 (.v (y0.Sum 0)), .int .u8 (.v (y0.Sum 1)), .int .u8 (.v (y0.Sum 2)), .int .u8 (.v (y0.Sum 3)), .int .u8 (.v (y0.Sum 4)), .int .u8 (.v (y0.Sum 5)), .int .u8 (.v (y0.Sum 6)), .int .u8 (.v (y0.Sum 7)), .int .u8 (.v (y0.Sum 8)), .int .u8 (.v (y0.Sum 9)), .int .u8 (.v (y0.Sum 10)), .int .u8 (.v (y0.Sum 11)), .int .u8 (.v (y0.Sum 12)), .int .u8 (.v (y0.Sum 13)), .int .u8 (.v (y0.Sum 14)), .int .u8 (.v (y0.Sum 15))]), (4, .var [.int .i64 (.v y1.Params.Rate), .int .i64 (.v y1.Params.Channels), .int .i64 (.v y1.Params.Depth), .bool (.v y1.Variable), .int .i64 (.v y1.Block)])], []⟩) (infer_Trust_K2 y0 y2 a3 p4) ?_ (fun j5 h => ?_)
              · conv => cbv
                refine .mk (by kernel_rfl) ?_
                conv => cbv
                refine .mk ?_
                conv => cbv
                refine .mk ?_
                conv => cbv
                refine .mk ?_
                conv => cbv
                refine .mk ?_
                conv => cbv
                refine den_br h (fun _ h => ?_) (fun _ h => ?_)
                · conv => cbv
                  refine .mk ?_
                  conv => cbv
                  refine den_join h fun j0 hj => ?_
                  conv => cbv
                  subst hj
                  exact ⟨⟨.same _, .same _, trivial⟩, .same _, .same _, .same _, .same _, .bool _ _ rfl, .same _, .same _, .same _, trivial⟩
                · conv => cbv
                  refine den_br h (fun _ h => ?_) (fun _ h => ?_)
                  · conv => cbv
                    refine den_call e_infer_Range [e_chain_Guess y1, e_chain_Cand p4] h (fun _ h => hP ▸ v_infer_Where h) (.cons _ _ _ _ (.same _) (.cons _ _ _ _ (.same _) .nil)) rfl rfl (fun _ => rfl) fun r6 _ h => ?_
                    conv => cbv
                    refine .mk ?_
                    conv => cbv
                    refine den_join h fun j0 hj => ?_
                    conv => cbv
                    subst hj
                    exact ⟨⟨.same _, .same _, trivial⟩, .same _, .same _, .same _, .same _, .bool _ _ rfl, .same _, .same _, .same _, trivial⟩
                  · conv => cbv
                    refine .mk ?_
                    conv => cbv
                    refine den_join h fun j0 hj => ?_
                    conv => cbv
                    subst hj
                    exact ⟨⟨.same _, .same _, trivial⟩, .same _, .same _, .same _, .same _, .bool _ _ rfl, .same _, .same _, .same _, trivial⟩
              · unfold infer_Trust_K2 at h
                conv => cbv
                refine den_br h (fun _ h => ?_) (fun _ h => ?_)
                · conv => cbv
                  replace h := den_out h hx1
                  cases h
                  exact .int _ _ _ rfl
                · conv => cbv
                  refine den_back h hb1 fun j0 hj => ?_
                  conv => cbv
                  subst hj
                  exact ⟨⟨.same _, .same _, trivial⟩, .same _, .same _, .same _, .same _, .same _, .int _ _ _ rfl, trivial⟩
            · conv => cbv
              replace h := den_out h hx1
              refine den_join h fun j0 hj => ?_
              conv => cbv
              subst hj
              exact trivial
        · unfold infer_Trust_K1 at h
          conv => cbv
          cases h
          exact .int _ _ _ rfl
def T_infer_Total : Tab := [(3, ⟨.int .i64, 1, 8, [.int .i64 (.lit 0)]⟩), (25, ⟨.struct [(0, 3), (1, 3)], 2, 16, [.int .i64 (.lit 0), .int .i64 (.lit 0)]⟩), (36, ⟨.struct [(0, 34), (3, 4), (4, 3)], 5, 40, [.int .i64 (.lit 0), .int .i64 (.lit 0), .int .i64 (.lit 0), .bool (.lit false), .int .i64 (.lit 0)]⟩), (37, ⟨.slice 41, 1, 24, [.nilsl]⟩), (41, ⟨.struct [(0, 34), (3, 3), (4, 3), (5, 3), (6, 3), (7, 4)], 8, 64, [.int .i64 (.lit 0), .int .i64 (.lit 0), .int .i64 (.lit 0), .int .i64 (.lit 0), .int .i64 (.lit 0), .int .i64 (.lit 0), .int .i64 (.lit 0), .bool (.lit false)]⟩), (54, ⟨.struct [(0, 34), (3, 3), (4, 3), (5, 3), (6, 3), (7, 3), (8, 52)], 24, 80, [.int .i64 (.lit 0), .int .i64 (.lit 0), .int .i64 (.lit 0), .int .i64 (.lit 0), .int .i64 (.lit 0), .int .i64 (.lit 0), .int .i64 (.lit 0), .int .i64 (.lit 0), .int .u8 (.lit 0), .int .u8 (.lit 0), .int .u8 (.lit 0), .int .u8 (.lit 0), .int .u8 (.lit 0), .int .u8 (.lit 0), .int .u8 (.lit 0), .int .u8 (.lit 0), .int .u8 (.lit 0), .int .u8 (.lit 0), .int .u8 (.lit 0), .int .u8 (.lit 0), .int .u8 (.lit 0), .int .u8 (.lit 0), .int .u8 (.lit 0), .int .u8 (.lit 0)]⟩)]
theorem T_infer_Total_ok : TabOk Try.prog T_infer_Total := by
  have h : T_infer_Total = tabOf Try.prog [3, 25, 36, 37, 41, 54] := by kernel_rfl
  rw [h]; exact tabOk_of (by kernel_rfl)
theorem v_infer_Total {y0 : info_Info} {y1 : chain_Guess} {y2 : List chain_Cand} {r : Int} (h : infer_Total y0 y1 y2 = some r) : AVal Try.prog [] 22 [e_info_Info y0, e_chain_Guess y1, (e_sl 8 e_chain_Cand) y2] (e_i64 r) := by
  refine aval_of (c := ⟨T_infer_Total, [], 36, [], []⟩) Try.func22 (by kernel_rfl) rfl rfl rfl T_infer_Total_ok (eqsOk_of (by kernel_rfl)) Try_mixed rfl fun P hP _ => ?_
  unfold infer_Total at h
  conv => cbv
  refine den_call e_i64 [e_info_Info y0, e_chain_Guess y1, (e_sl 8 e_chain_Cand) y2] h (fun _ h => hP ▸ v_infer_Trust h) (.cons _ _ _ _ (.same _) (.cons _ _ _ _ (.same _) (.cons _ _ _ _ (.same _) .nil))) rfl rfl (fun _ => rfl) fun r1 _ h => ?_
  conv => cbv
  refine .mk ?_
  conv => cbv
  refine den_br h (fun _ h => ?_) (fun _ h => ?_)
  · conv => cbv
    cases h
    exact .same _
  · conv => cbv
    refine den_cut (r := r) (fun j2 : Int => ⟨[(7, .int .i64 (.v j2))], [], []⟩) infer_Total_K1 ?_ (fun j2 h => ?_)
    · conv => cbv
      refine den_loop (infer_Total_L1 y1 y2) h (fun a3 : Int × Int => ⟨[(4, .ptr 4 0), (7, .int .i64 (.v a3.1)), (22, .sl 8 e_chain_Cand y2), (23, .int .i64 (.len y2)), (24, .int .i64 (.v a3.2))], [(4, .var [.int .i64 (.v y1.Params.Rate), .int .i64 (.v y1.Params.Channels), .int .i64 (.v y1.Params.Depth), .bool (.v y1.Variable), .int .i64 (.v y1.Block)])], []⟩) ?_ (fun _ _ a3 x1 h hb1 hx1 => ?_)
      · intro j0 hj
        conv => cbv
        subst hj
        exact ⟨⟨.same _, trivial⟩, .same _, .int _ _ _ rfl, .same _, .same _, .int _ _ _ rfl, trivial⟩
      · unfold infer_Total_L1 at h
        conv => cbv
        refine den_br h (fun _ h => ?_) (fun _ h => ?_)
        · conv => cbv
          refine den_elem h fun p4 _ h => ?_
          conv => cbv
          refine .mk ?_
          conv => cbv
          refine den_call e_infer_Range [e_chain_Guess y1, e_chain_Cand p4] h (fun _ h => hP ▸ v_infer_Where h) (.cons _ _ _ _ (.same _) (.cons _ _ _ _ (.same _) .nil)) rfl rfl (fun _ => rfl) fun r5 _ h => ?_
          conv => cbv
          refine den_back h hb1 fun j0 hj => ?_
          conv => cbv
          subst hj
          exact ⟨⟨.same _, trivial⟩, .same _, .int _ _ _ rfl, .same _, .same _, .int _ _ _ rfl, trivial⟩
        · conv => cbv
          replace h := den_out h hx1
          refine den_join h fun j0 hj => ?_
          conv => cbv
          subst hj
          exact ⟨.int _ _ _ rfl, trivial⟩
    · unfold infer_Total_K1 at h
      conv => cbv
      cases h
      exact .same _
def T_jetsamlaw17_InferTrusts : Tab := [(3, ⟨.int .i64, 1, 8, [.int .i64 (.lit 0)]⟩), (25, ⟨.struct [(0, 3), (1, 3)], 2, 16, [.int .i64 (.lit 0), .int .i64 (.lit 0)]⟩), (34, ⟨.struct [(0, 3), (1, 3), (2, 3)], 3, 24, [.int .i64 (.lit 0), .int .i64 (.lit 0), .int .i64 (.lit 0)]⟩), (36, ⟨.struct [(0, 34), (3, 4), (4, 3)], 5, 40, [.int .i64 (.lit 0), .int .i64 (.lit 0), .int .i64 (.lit 0), .bool (.lit false), .int .i64 (.lit 0)]⟩), (37, ⟨.slice 41, 1, 24, [.nilsl]⟩), (41, ⟨.struct [(0, 34), (3, 3), (4, 3), (5, 3), (6, 3), (7, 4)], 8, 64, [.int .i64 (.lit 0), .int .i64 (.lit 0), .int .i64 (.lit 0), .int .i64 (.lit 0), .int .i64 (.lit 0), .int .i64 (.lit 0), .int .i64 (.lit 0), .bool (.lit false)]⟩), (54, ⟨.struct [(0, 34), (3, 3), (4, 3), (5, 3), (6, 3), (7, 3), (8, 52)], 24, 80, [.int .i64 (.lit 0), .int .i64 (.lit 0), .int .i64 (.lit 0), .int .i64 (.lit 0), .int .i64 (.lit 0), .int .i64 (.lit 0), .int .i64 (.lit 0), .int .i64 (.lit 0), .int .u8 (.lit 0), .int .u8 (.lit 0), .int .u8 (.lit 0), .int .u8 (.lit 0), .int .u8 (.lit 0), .int .u8 (.lit 0), .int .u8 (.lit 0), .int .u8 (.lit 0), .int .u8 (.lit 0), .int .u8 (.lit 0), .int .u8 (.lit 0), .int .u8 (.lit 0), .int .u8 (.lit 0), .int .u8 (.lit 0), .int .u8 (.lit 0), .int .u8 (.lit 0)]⟩)]
theorem T_jetsamlaw17_InferTrusts_ok : TabOk Try.prog T_jetsamlaw17_InferTrusts := by
  have h : T_jetsamlaw17_InferTrusts = tabOf Try.prog [3, 25, 34, 36, 37, 41, 54] := by kernel_rfl
  rw [h]; exact tabOk_of (by kernel_rfl)
theorem v_jetsamlaw17_InferTrusts {y0 : info_Info} {y1 : chain_Guess} {y2 : List chain_Cand} {r : Bool} (h : jetsamlaw17_InferTrusts y0 y1 y2 = some r) : AVal Try.prog [] 7 [e_info_Info y0, e_chain_Guess y1, (e_sl 8 e_chain_Cand) y2] (e_bool r) := by
  refine aval_of (c := ⟨T_jetsamlaw17_InferTrusts, [], 136, [], [(34, [.i, .i, .i])]⟩) Try.func7 (by kernel_rfl) rfl rfl rfl T_jetsamlaw17_InferTrusts_ok (eqsOk_of (by kernel_rfl)) Try_mixed rfl fun P hP _ => ?_
  unfold jetsamlaw17_InferTrusts at h
  conv => cbv
  refine .mk ?_
  conv => cbv
  refine den_call e_bool [(e_sl 8 e_chain_Cand) y2] h (fun _ h => hP ▸ v_jetsamlaw17_few h) (.cons _ _ _ _ (.same _) .nil) rfl rfl (fun _ => rfl) fun r1 _ h => ?_
  conv => cbv
  refine .mk ?_
  conv => cbv
  refine den_br h (fun _ h => ?_) (fun _ h => ?_)
  · conv => cbv
    refine den_call e_bool [] h (fun _ h => hP ▸ v_jetsamlaw17_awake h) .nil rfl rfl (fun _ => rfl) fun r2 _ h => ?_
    conv => cbv
    cases h
    exact .same _
  · conv => cbv
    refine den_cut (r := r) (fun j3 : Int × Int => ⟨[(2, .sl 8 e_chain_Cand y2), (3, .ptr 3 0), (4, .ptr 4 0), (7, .int .i64 (.v j3.1)), (8, .int .i64 (.v j3.2))], [(3, .var [.int .i64 (.v y0.Params.Rate), .int .i64 (.v y0.Params.Channels), .int .i64 (.v y0.Params.Depth), .int .i64 (.v y0.MinBlock), .int .i64 (.v y0.MaxBlock), .int .i64 (.v y0.MinFrame), .int .i64 (.v y0.MaxFrame), .int .i64 (.v y0.Total), .int .u8 (.v (y0.Sum 0)), .int .u8 (.v (y0.Sum 1)), .int .u8 (.v (y0.Sum 2)), .int .u8 (.v (y0.Sum 3)), .int .u8 (.v (y0.Sum 4)), .int .u8 (.v (y0.Sum 5)), .int .u8 (.v (y0.Sum 6)), .int .u8 (.v (y0.Sum 7)), .int .u8 (.v (y0.Sum 8)), .int .u8 (.v (y0.Sum 9)), .int .u8 (.v (y0.Sum 10)), .int .u8 (.v (y0.Sum 11)), .int .u8 (.v (y0.Sum 12)), .int .u8 (.v (y0.Sum 13)), .int .u8 (.v (y0.Sum 14)), .int .u8 (.v (y0.Sum 15))]), (4, .var [.int .i64 (.v y1.Params.Rate), .int .i64 (.v y1.Params.Channels), .int .i64 (.v y1.Params.Depth), .bool (.v y1.Variable), .int .i64 (.v y1.Block)])], []⟩) (jetsamlaw17_InferTrusts_K1 y0 y1 y2) ?_ (fun j3 h => ?_)
    · conv => cbv
      refine den_loop (jetsamlaw17_InferTrusts_L1 y0 y1 y2) h (fun a12 : Int × Int × Int => ⟨[(2, .sl 8 e_chain_Cand y2), (3, .ptr 3 0), (4, .ptr 4 0), (7, .int .i64 (.v a12.1)), (8, .int .i64 (.v a12.2.1)), (9, .int .i64 (.v a12.2.2))], [(3, .var [.int .i64 (.v y0.Params.Rate), .int .i64 (.v y0.Params.Channels), .int .i64 (.v y0.Params.Depth), .int .i64 (.v y0.MinBlock), .int .i64 (.v y0.MaxBlock), .int .i64 (.v y0.MinFrame), .int .i64 (.v y0.MaxFrame), .int .i64 (.v y0.Total), .int .u8 (.v (y0.Sum 0)), .int .u8 (.v (y0.Sum 1)), .int .u8 (.v (y0.Sum 2)), .int .u8 (.v (y0.Sum 3)), .int .u8 (.v (y0.Sum 4)), .int .u8 (.v (y0.Sum 5)), .int .u8 (.v (y0.Sum 6)), .int .u8 (.v (y0.Sum 7)), .int .u8 (.v (y0.Sum 8)), .int .u8 (.v (y0.Sum 9)), .int .u8 (.v (y0.Sum 10)), .int .u8 (.v (y0.Sum 11)), .int .u8 (.v (y0.Sum 12)), .int .u8 (.v (y0.Sum 13)), .int .u8 (.v (y0.Sum 14)), .int .u8 (.v (y0.Sum 15))]), (4, .var [.int .i64 (.v y1.Params.Rate), .int .i64 (.v y1.Params.Channels), .int .i64 (.v y1.Params.Depth), .bool (.v y1.Variable), .int .i64 (.v y1.Block)])], []⟩) ?_ (fun _ _ a12 x1 h hb1 hx1 => ?_)
      · intro j0 hj
        conv => cbv
        subst hj
        exact ⟨⟨.same _, .same _, trivial⟩, .same _, .same _, .same _, .int _ _ _ rfl, .int _ _ _ rfl, .int _ _ _ rfl, trivial⟩
      · unfold jetsamlaw17_InferTrusts_L1 at h
        conv => cbv
        refine den_br h (fun _ h => ?_) (fun _ h => ?_)
        · conv => cbv
          refine den_cut (r := x1) (fun j13 : Int × Int => ⟨[(2, .sl 8 e_chain_Cand y2), (3, .ptr 3 0), (4, .ptr 4 0), (7, .int .i64 (.v j13.1)), (8, .int .i64 (.v j13.2)), (9, .int .i64 (.v a12.2.2))], [(3, .var [.int .i64 (.v y0.Params.Rate), .int .i64 (.v y0.Params.Channels), .int .i64 (.v y0.Params.Depth), .int .i64 (.v y0.MinBlock), .int .i64 (.v y0.MaxBlock), .int .i64 (.v y0.MinFrame), .int .i64 (.v y0.MaxFrame), .int .i64 (.v y0.Total), .int .u8 (.v (y0.Sum 0)), .int .u8 (.v (y0.Sum 1)), .int .u8 (.v (y0.Sum 2)), .int .u8 (.v (y0.Sum 3)), .int .u8 (.v (y0.Sum 4)), .int .u8 (.v (y0.Sum 5)), .int .u8 (.v (y0.Sum 6)), .int .u8 (.v (y0.Sum 7)), .int .u8 (.v (y0.Sum 8)), .int .u8 (.v (y0.Sum 9)), .int .u8 (.v (y0.Sum 10)), .int .u8 (.v (y0.Sum 11)), .int .u8 (.v (y0.Sum 12)), .int .u8 (.v (y0.Sum 13)), .int .u8 (.v (y0.Sum 14)), .int .u8 (.v (y0.Sum 15))]), (4, .var [.int .i64 (.v y1.Params.Rate), .int .i64 (.v y1.Params.Channels), .int .i64 (.v y1.Params.Depth), .bool (.v y1.Variable), .int .i64 (.v y1.Block)])], []⟩) (jetsamlaw17_InferTrusts_K6 a12) ?_ (fun j13 h => ?_)
          · conv => cbv
            refine .mk ?_
            conv => cbv
            refine den_elem h fun p14 _ h => ?_
            conv => cbv
            refine den_call e_infer_Range [e_chain_Guess y1, e_chain_Cand p14] h (fun _ h => hP ▸ v_infer_Where h) (.cons _ _ _ _ (.same _) (.cons _ _ _ _ (.same _) .nil)) rfl rfl (fun _ => rfl) fun r15 _ h => ?_
            conv => cbv
            refine .mk ?_
            conv => cbv
            refine .mk ?_
            conv => cbv
            refine .mk ?_
            conv => cbv
            refine .mk ?_
            conv => cbv
            refine .mk ?_
            conv => cbv
            refine .mk ?_
            conv => cbv
            refine .mk ?_
            conv => cbv
            refine .mk ?_
            conv => cbv
            refine .mk ?_
            conv => cbv
            refine den_br h (fun _ h => ?_) (fun _ h => ?_)
            · conv => cbv
              refine den_join h fun j0 hj => ?_
              conv => cbv
              subst hj
              exact ⟨⟨.same _, .same _, trivial⟩, .same _, .same _, .same _, .int _ _ _ rfl, .int _ _ _ rfl, .same _, trivial⟩
            · conv => cbv
              refine den_join h fun j0 hj => ?_
              conv => cbv
              subst hj
              exact ⟨⟨.same _, .same _, trivial⟩, .same _, .same _, .same _, .int _ _ _ rfl, .int _ _ _ rfl, .same _, trivial⟩
          · unfold jetsamlaw17_InferTrusts_K6 at h
            conv => cbv
            refine den_back h hb1 fun j0 hj => ?_
            conv => cbv
            subst hj
            exact ⟨⟨.same _, .same _, trivial⟩, .same _, .same _, .same _, .int _ _ _ rfl, .int _ _ _ rfl, .int _ _ _ rfl, trivial⟩
        · conv => cbv
          replace h := den_out h hx1
          refine den_join h fun j0 hj => ?_
          conv => cbv
          subst hj
          exact ⟨⟨.same _, .same _, trivial⟩, .same _, .same _, .same _, .int _ _ _ rfl, .int _ _ _ rfl, trivial⟩
    · unfold jetsamlaw17_InferTrusts_K1 at h
      conv => cbv
      refine den_cut (r := r) (fun j4 : Int => ⟨[(2, .sl 8 e_chain_Cand y2), (3, .ptr 3 0), (4, .ptr 4 0), (7, .int .i64 (.v j4)), (8, .int .i64 (.v j3.2))], [(3, .var [.int .i64 (.v y0.Params.Rate), .int .i64 (.v y0.Params.Channels), .int .i64 (.v y0.Params.Depth), .int .i64 (.v y0.MinBlock), .int .i64 (.v y0.MaxBlock), .int .i64 (.v y0.MinFrame), .int .i64 (.v y0.MaxFrame), .int .i64 (.v y0.Total), .int .u8 (.v (y0.Sum 0)), .int .u8 (.v (y0.Sum 1)), .int .u8 (.v (y0.Sum 2)), .int .u8 (.v (y0.Sum 3)), .int .u8 (.v (y0.Sum 4)), .int .u8 (.v (y0.Sum 5)), .int .u8 (.v (y0.Sum 6)), .int .u8 (.v (y0.Sum 7)), .int .u8 (.v (y0.Sum 8)), .int .u8 (.v (y0.Sum 9)), .int .u8 (.v (y0.Sum 10)), .int .u8 (.v (y0.Sum 11)), .int .u8 (.v (y0.Sum 12)), .int .u8 (.v (y0.Sum 13)), .int .u8 (.v (y0.Sum 14)), .int .u8 (.v (y0.Sum 15))]), (4, .var [.int .i64 (.v y1.Params.Rate), .int .i64 (.v y1.Params.Channels), .int .i64 (.v y1.Params.Depth), .bool (.v y1.Variable), .int .i64 (.v y1.Block)])], []⟩) (jetsamlaw17_InferTrusts_K2 y0 y1 y2 j3) ?_ (fun j4 h => ?_)
      · conv => cbv
        refine den_br h (fun _ h => ?_) (fun _ h => ?_)
        · conv => cbv
          refine den_join h fun j0 hj => ?_
          conv => cbv
          subst hj
          exact ⟨⟨.same _, .same _, trivial⟩, .same _, .same _, .same _, .int _ _ _ rfl, .same _, trivial⟩
        · conv => cbv
          refine den_join h fun j0 hj => ?_
          conv => cbv
          subst hj
          exact ⟨⟨.same _, .same _, trivial⟩, .same _, .same _, .same _, .int _ _ _ rfl, .same _, trivial⟩
      · unfold jetsamlaw17_InferTrusts_K2 at h
        conv => cbv
        refine den_cut (r := r) (fun j5 : Int => ⟨[(2, .sl 8 e_chain_Cand y2), (3, .ptr 3 0), (4, .ptr 4 0), (7, .int .i64 (.v j5)), (8, .int .i64 (.v j3.2))], [(3, .var [.int .i64 (.v y0.Params.Rate), .int .i64 (.v y0.Params.Channels), .int .i64 (.v y0.Params.Depth), .int .i64 (.v y0.MinBlock), .int .i64 (.v y0.MaxBlock), .int .i64 (.v y0.MinFrame), .int .i64 (.v y0.MaxFrame), .int .i64 (.v y0.Total), .int .u8 (.v (y0.Sum 0)), .int .u8 (.v (y0.Sum 1)), .int .u8 (.v (y0.Sum 2)), .int .u8 (.v (y0.Sum 3)), .int .u8 (.v (y0.Sum 4)), .int .u8 (.v (y0.Sum 5)), .int .u8 (.v (y0.Sum 6)), .int .u8 (.v (y0.Sum 7)), .int .u8 (.v (y0.Sum 8)), .int .u8 (.v (y0.Sum 9)), .int .u8 (.v (y0.Sum 10)), .int .u8 (.v (y0.Sum 11)), .int .u8 (.v (y0.Sum 12)), .int .u8 (.v (y0.Sum 13)), .int .u8 (.v (y0.Sum 14)), .int .u8 (.v (y0.Sum 15))]), (4, .var [.int .i64 (.v y1.Params.Rate), .int .i64 (.v y1.Params.Channels), .int .i64 (.v y1.Params.Depth), .bool (.v y1.Variable), .int .i64 (.v y1.Block)])], []⟩) (jetsamlaw17_InferTrusts_K3 y0 y1 y2 j3) ?_ (fun j5 h => ?_)
        · conv => cbv
          refine den_call e_i64 [e_info_Info y0] h (fun _ h => hP ▸ v_info_Check h) (.cons _ _ _ _ (.same _) .nil) rfl rfl (fun _ => rfl) fun r11 _ h => ?_
          conv => cbv
          refine den_br h (fun _ h => ?_) (fun _ h => ?_)
          · conv => cbv
            refine den_join h fun j0 hj => ?_
            conv => cbv
            subst hj
            exact ⟨⟨.same _, .same _, trivial⟩, .same _, .same _, .same _, .int _ _ _ rfl, .same _, trivial⟩
          · conv => cbv
            refine den_join h fun j0 hj => ?_
            conv => cbv
            subst hj
            exact ⟨⟨.same _, .same _, trivial⟩, .same _, .same _, .same _, .int _ _ _ rfl, .same _, trivial⟩
        · unfold jetsamlaw17_InferTrusts_K3 at h
          conv => cbv
          refine den_cut (r := r) (fun j6 : Int => ⟨[(2, .sl 8 e_chain_Cand y2), (3, .ptr 3 0), (4, .ptr 4 0), (7, .int .i64 (.v j6)), (8, .int .i64 (.v j3.2))], [(3, .var [.int .i64 (.v y0.Params.Rate), .int .i64 (.v y0.Params.Channels), .int .i64 (.v y0.Params.Depth), .int .i64 (.v y0.MinBlock), .int .i64 (.v y0.MaxBlock), .int .i64 (.v y0.MinFrame), .int .i64 (.v y0.MaxFrame), .int .i64 (.v y0.Total), .int .u8 (.v (y0.Sum 0)), .int .u8 (.v (y0.Sum 1)), .int .u8 (.v (y0.Sum 2)), .int .u8 (.v (y0.Sum 3)), .int .u8 (.v (y0.Sum 4)), .int .u8 (.v (y0.Sum 5)), .int .u8 (.v (y0.Sum 6)), .int .u8 (.v (y0.Sum 7)), .int .u8 (.v (y0.Sum 8)), .int .u8 (.v (y0.Sum 9)), .int .u8 (.v (y0.Sum 10)), .int .u8 (.v (y0.Sum 11)), .int .u8 (.v (y0.Sum 12)), .int .u8 (.v (y0.Sum 13)), .int .u8 (.v (y0.Sum 14)), .int .u8 (.v (y0.Sum 15))]), (4, .var [.int .i64 (.v y1.Params.Rate), .int .i64 (.v y1.Params.Channels), .int .i64 (.v y1.Params.Depth), .bool (.v y1.Variable), .int .i64 (.v y1.Block)])], []⟩) (jetsamlaw17_InferTrusts_K4 y0 y1 y2 j3) ?_ (fun j6 h => ?_)
          · conv => cbv
            refine den_br h (fun _ h => ?_) (fun _ h => ?_)
            · conv => cbv
              refine den_join h fun j0 hj => ?_
              conv => cbv
              subst hj
              exact ⟨⟨.same _, .same _, trivial⟩, .same _, .same _, .same _, .int _ _ _ rfl, .same _, trivial⟩
            · conv => cbv
              refine den_join h fun j0 hj => ?_
              conv => cbv
              subst hj
              exact ⟨⟨.same _, .same _, trivial⟩, .same _, .same _, .same _, .int _ _ _ rfl, .same _, trivial⟩
          · unfold jetsamlaw17_InferTrusts_K4 at h
            conv => cbv
            refine den_cut (r := r) (fun j7 : Int => ⟨[(2, .sl 8 e_chain_Cand y2), (3, .ptr 3 0), (4, .ptr 4 0), (7, .int .i64 (.v j6)), (12, .int .i64 (.v j7))], [(3, .var [.int .i64 (.v y0.Params.Rate), .int .i64 (.v y0.Params.Channels), .int .i64 (.v y0.Params.Depth), .int .i64 (.v y0.MinBlock), .int .i64 (.v y0.MaxBlock), .int .i64 (.v y0.MinFrame), .int .i64 (.v y0.MaxFrame), .int .i64 (.v y0.Total), .int .u8 (.v (y0.Sum 0)), .int .u8 (.v (y0.Sum 1)), .int .u8 (.v (y0.Sum 2)), .int .u8 (.v (y0.Sum 3)), .int .u8 (.v (y0.Sum 4)), .int .u8 (.v (y0.Sum 5)), .int .u8 (.v (y0.Sum 6)), .int .u8 (.v (y0.Sum 7)), .int .u8 (.v (y0.Sum 8)), .int .u8 (.v (y0.Sum 9)), .int .u8 (.v (y0.Sum 10)), .int .u8 (.v (y0.Sum 11)), .int .u8 (.v (y0.Sum 12)), .int .u8 (.v (y0.Sum 13)), .int .u8 (.v (y0.Sum 14)), .int .u8 (.v (y0.Sum 15))]), (4, .var [.int .i64 (.v y1.Params.Rate), .int .i64 (.v y1.Params.Channels), .int .i64 (.v y1.Params.Depth), .bool (.v y1.Variable), .int .i64 (.v y1.Block)])], []⟩) (jetsamlaw17_InferTrusts_K5 y0 y1 y2 j6) ?_ (fun j7 h => ?_)
            · conv => cbv
              refine .mk ?_
              conv => cbv
              refine den_br h (fun _ h => ?_) (fun _ h => ?_)
              · conv => cbv
                refine den_join h fun j0 hj => ?_
                conv => cbv
                subst hj
                exact ⟨⟨.same _, .same _, trivial⟩, .same _, .same _, .same _, .same _, .int _ _ _ rfl, trivial⟩
              · conv => cbv
                refine den_join h fun j0 hj => ?_
                conv => cbv
                subst hj
                exact ⟨⟨.same _, .same _, trivial⟩, .same _, .same _, .same _, .same _, .int _ _ _ rfl, trivial⟩
            · unfold jetsamlaw17_InferTrusts_K5 at h
              conv => cbv
              refine .mk ?_
              conv => cbv
              refine den_call e_i64 [e_info_Info y0, e_chain_Guess y1, (e_sl 8 e_chain_Cand) y2] h (fun _ h => hP ▸ v_infer_Trust h) (.cons _ _ _ _ (.same _) (.cons _ _ _ _ (.same _) (.cons _ _ _ _ (.same _) .nil))) rfl rfl (fun _ => rfl) fun r8 _ h => ?_
              conv => cbv
              refine .mk ?_
              conv => cbv
              refine den_br h (fun _ h => ?_) (fun _ h => ?_)
              · conv => cbv
                refine den_call e_i64 [e_info_Info y0, e_chain_Guess y1, (e_sl 8 e_chain_Cand) y2] h (fun _ h => hP ▸ v_infer_Total h) (.cons _ _ _ _ (.same _) (.cons _ _ _ _ (.same _) (.cons _ _ _ _ (.same _) .nil))) rfl rfl (fun _ => rfl) fun r9 _ h => ?_
                conv => cbv
                refine .mk ?_
                conv => cbv
                refine den_br h (fun _ h => ?_) (fun _ h => ?_)
                · conv => cbv
                  refine den_call e_bool [] h (fun _ h => hP ▸ v_jetsamlaw17_awake h) .nil rfl rfl (fun _ => rfl) fun r10 _ h => ?_
                  conv => cbv
                  cases h
                  exact .same _
                · conv => cbv
                  cases h
                  exact .bool _ _ rfl
              · conv => cbv
                refine .mk ?_
                conv => cbv
                cases h
                exact .bool _ _ rfl
def T_jetsamlaw17_InferChain : Tab := [(3, ⟨.int .i64, 1, 8, [.int .i64 (.lit 0)]⟩), (22, ⟨.slice 25, 1, 24, [.nilsl]⟩), (25, ⟨.struct [(0, 3), (1, 3)], 2, 16, [.int .i64 (.lit 0), .int .i64 (.lit 0)]⟩), (36, ⟨.struct [(0, 34), (3, 4), (4, 3)], 5, 40, [.int .i64 (.lit 0), .int .i64 (.lit 0), .int .i64 (.lit 0), .bool (.lit false), .int .i64 (.lit 0)]⟩), (37, ⟨.slice 41, 1, 24, [.nilsl]⟩), (41, ⟨.struct [(0, 34), (3, 3), (4, 3), (5, 3), (6, 3), (7, 4)], 8, 64, [.int .i64 (.lit 0), .int .i64 (.lit 0), .int .i64 (.lit 0), .int .i64 (.lit 0), .int .i64 (.lit 0), .int .i64 (.lit 0), .int .i64 (.lit 0), .bool (.lit false)]⟩), (54, ⟨.struct [(0, 34), (3, 3), (4, 3), (5, 3), (6, 3), (7, 3), (8, 52)], 24, 80, [.int .i64 (.lit 0), .int .i64 (.lit 0), .int .i64 (.lit 0), .int .i64 (.lit 0), .int .i64 (.lit 0), .int .i64 (.lit 0), .int .i64 (.lit 0), .int .i64 (.lit 0), .int .u8 (.lit 0), .int .u8 (.lit 0), .int .u8 (.lit 0), .int .u8 (.lit 0), .int .u8 (.lit 0), .int .u8 (.lit 0), .int .u8 (.lit 0), .int .u8 (.lit 0), .int .u8 (.lit 0), .int .u8 (.lit 0), .int .u8 (.lit 0), .int .u8 (.lit 0), .int .u8 (.lit 0), .int .u8 (.lit 0), .int .u8 (.lit 0), .int .u8 (.lit 0)]⟩), (59, ⟨.arr 2 3, 2, 16, [.int .i64 (.lit 0), .int .i64 (.lit 0)]⟩)]
theorem T_jetsamlaw17_InferChain_ok : TabOk Try.prog T_jetsamlaw17_InferChain := by
  have h : T_jetsamlaw17_InferChain = tabOf Try.prog [3, 22, 25, 36, 37, 41, 54, 59] := by kernel_rfl
  rw [h]; exact tabOk_of (by kernel_rfl)
theorem v_jetsamlaw17_InferChain {y0 : Int} {y1 : Int} {y2 : Arr2 Int} {r : Bool} (h : jetsamlaw17_InferChain y0 y1 y2 = some r) : AVal Try.prog [] 8 [e_i64 y0, e_i64 y1, (e_arr2 e_i64) y2] (e_bool r) := by
  refine aval_of (c := ⟨T_jetsamlaw17_InferChain, [], 124, [], []⟩) Try.func8 (by kernel_rfl) rfl rfl rfl T_jetsamlaw17_InferChain_ok (eqsOk_of (by kernel_rfl)) Try_mixed rfl fun P hP _ => ?_
  unfold jetsamlaw17_InferChain at h
  conv => cbv
  refine .mk ?_
  conv => cbv
  refine .mk ?_
  conv => cbv
  refine .mk ?_
  conv => cbv
  refine den_br h (fun _ h => ?_) (fun _ h => ?_)
  · conv => cbv
    refine .mk ?_
    conv => cbv
    refine .mk ?_
    conv => cbv
    refine den_call e_bool [] h (fun _ h => hP ▸ v_jetsamlaw17_awake h) .nil rfl rfl (fun _ => rfl) fun r1 _ h => ?_
    conv => cbv
    cases h
    exact .same _
  · conv => cbv
    refine .mk ?_
    conv => cbv
    refine den_br h (fun _ h => ?_) (fun _ h => ?_)
    · conv => cbv
      refine .mk ?_
      conv => cbv
      refine den_call e_bool [] h (fun _ h => hP ▸ v_jetsamlaw17_awake h) .nil rfl rfl (fun _ => rfl) fun r2 _ h => ?_
      conv => cbv
      cases h
      exact .same _
    · conv => cbv
      refine .mk ?_
      conv => cbv
      refine den_br h (fun _ h => ?_) (fun _ h => ?_)
      · conv => cbv
        refine den_call e_bool [] h (fun _ h => hP ▸ v_jetsamlaw17_awake h) .nil rfl rfl (fun _ => rfl) fun r3 _ h => ?_
        conv => cbv
        cases h
        exact .same _
      · conv => cbv
        refine den_br h (fun _ h => ?_) (fun _ h => ?_)
        · conv => cbv
          refine den_call e_bool [] h (fun _ h => hP ▸ v_jetsamlaw17_awake h) .nil rfl rfl (fun _ => rfl) fun r4 _ h => ?_
          conv => cbv
          cases h
          exact .same _
        · conv => cbv
          refine den_cut (r := r) (fun j5 : (List chain_Cand) × (List chain_Cand) => ⟨[(0, .int .i64 (.v y0)), (1, .int .i64 (.v y1)), (5, .ptr 5 0), (7, .ptr 7 0), (8, .osl 62), (9, .osl 76)], [(5, .var [.int .i64 (.v y2.a0), .int .i64 (.v y2.a1)]), (7, .var [.int .i64 (.lit 0), .int .i64 (.lit 0), .int .i64 (.lit 0), .bool (.lit false), .int .i64 (.v y0)]), (62, .arr false 41 8 e_chain_Cand j5.1), (76, .arr false 41 8 e_chain_Cand j5.2)], []⟩) (jetsamlaw17_InferChain_K1 y0 y1 y2) ?_ (fun j5 h => ?_)
          · conv => cbv
            refine den_loop (jetsamlaw17_InferChain_L1 y0 y1 y2) h (fun a15 : Int × (List chain_Cand) × (List chain_Cand) => ⟨[(0, .int .i64 (.v y0)), (1, .int .i64 (.v y1)), (5, .ptr 5 0), (7, .ptr 7 0), (8, .osl 62), (9, .osl 76), (10, .int .i64 (.v a15.1))], [(5, .var [.int .i64 (.v y2.a0), .int .i64 (.v y2.a1)]), (7, .var [.int .i64 (.lit 0), .int .i64 (.lit 0), .int .i64 (.lit 0), .bool (.lit false), .int .i64 (.v y0)]), (62, .arr false 41 8 e_chain_Cand a15.2.1), (76, .arr false 41 8 e_chain_Cand a15.2.2)], []⟩) ?_ (fun _ _ a15 x1 h hb1 hx1 => ?_)
            · intro j0 hj
              conv => cbv
              subst hj
              exact ⟨⟨.same _, .same _, .arr _ _ _ _ _ _ rfl, .arr _ _ _ _ _ _ rfl, trivial⟩, .same _, .same _, .same _, .same _, .own _ _ _ _ _ _ rfl rfl, .own _ _ _ _ _ _ rfl rfl, .int _ _ _ rfl, trivial⟩
            · unfold jetsamlaw17_InferChain_L1 at h
              conv => cbv
              refine den_br h (fun _ h => ?_) (fun _ h => ?_)
              · conv => cbv
                refine den_cut (r := x1) (fun j16 : (List chain_Cand) × (List chain_Cand) => ⟨[(0, .int .i64 (.v y0)), (1, .int .i64 (.v y1)), (5, .ptr 5 0), (7, .ptr 7 0), (8, .osl 62), (9, .osl 76), (10, .int .i64 (.v a15.1))], [(5, .var [.int .i64 (.v y2.a0), .int .i64 (.v y2.a1)]), (7, .var [.int .i64 (.lit 0), .int .i64 (.lit 0), .int .i64 (.lit 0), .bool (.lit false), .int .i64 (.v y0)]), (62, .arr false 41 8 e_chain_Cand j16.1), (76, .arr false 41 8 e_chain_Cand j16.2)], []⟩) (jetsamlaw17_InferChain_K3 a15) ?_ (fun j16 h => ?_)
                · conv => cbv
                  refine .mk ?_
                  conv => cbv
                  refine den_app_own e_chain_Cand (xs := [(⟨(⟨(0 : Int), (0 : Int), (0 : Int)⟩ : api_Params), (W (10 * a15.1)), (10 : Int), a15.1, y0, false⟩ : chain_Cand)]) h rfl (News.sls (.cons _ _ _ _ (VEq.of_lepl (.cons _ _ _ _ (.int _ _ _ rfl) (.cons _ _ _ _ (.int _ _ _ rfl) (.cons _ _ _ _ (.int _ _ _ rfl) (.cons _ _ _ _ (.int _ _ _ rfl) (.cons _ _ _ _ (.int _ _ _ rfl) (.cons _ _ _ _ (.int _ _ _ rfl) (.cons _ _ _ _ (.int _ _ _ rfl) (.cons _ _ _ _ (.bool _ _ rfl) .nil)))))))) rfl) .nil)) fun l17 _ h => ?_
                  conv => cbv
                  refine .mk ?_
                  conv => cbv
                  refine den_br h (fun _ h => ?_) (fun _ h => ?_)
                  · conv => cbv
                    refine den_app_own e_chain_Cand (xs := [(⟨(⟨(0 : Int), (0 : Int), (0 : Int)⟩ : api_Params), (W (10 * a15.1)), (10 : Int), a15.1, y0, false⟩ : chain_Cand)]) h rfl (News.sls (.cons _ _ _ _ (VEq.of_lepl (.cons _ _ _ _ (.int _ _ _ rfl) (.cons _ _ _ _ (.int _ _ _ rfl) (.cons _ _ _ _ (.int _ _ _ rfl) (.cons _ _ _ _ (.int _ _ _ rfl) (.cons _ _ _ _ (.int _ _ _ rfl) (.cons _ _ _ _ (.int _ _ _ rfl) (.cons _ _ _ _ (.int _ _ _ rfl) (.cons _ _ _ _ (.bool _ _ rfl) .nil)))))))) rfl) .nil)) fun l18 _ h => ?_
                    conv => cbv
                    refine den_join h fun j0 hj => ?_
                    conv => cbv
                    subst hj
                    exact ⟨⟨.same _, .same _, .arr _ _ _ _ _ _ rfl, .arr _ _ _ _ _ _ rfl, trivial⟩, .same _, .same _, .same _, .same _, .same _, .same _, .same _, trivial⟩
                  · conv => cbv
                    refine den_br h (fun _ h => ?_) (fun _ h => ?_)
                    · conv => cbv
                      refine den_app_own e_chain_Cand (xs := [(⟨(⟨(0 : Int), (0 : Int), (0 : Int)⟩ : api_Params), (W (10 * a15.1)), (10 : Int), a15.1, y0, false⟩ : chain_Cand)]) h rfl (News.sls (.cons _ _ _ _ (VEq.of_lepl (.cons _ _ _ _ (.int _ _ _ rfl) (.cons _ _ _ _ (.int _ _ _ rfl) (.cons _ _ _ _ (.int _ _ _ rfl) (.cons _ _ _ _ (.int _ _ _ rfl) (.cons _ _ _ _ (.int _ _ _ rfl) (.cons _ _ _ _ (.int _ _ _ rfl) (.cons _ _ _ _ (.int _ _ _ rfl) (.cons _ _ _ _ (.bool _ _ rfl) .nil)))))))) rfl) .nil)) fun l19 _ h => ?_
                      conv => cbv
                      refine den_join h fun j0 hj => ?_
                      conv => cbv
                      subst hj
                      exact ⟨⟨.same _, .same _, .arr _ _ _ _ _ _ rfl, .arr _ _ _ _ _ _ rfl, trivial⟩, .same _, .same _, .same _, .same _, .same _, .same _, .same _, trivial⟩
                    · conv => cbv
                      refine den_join h fun j0 hj => ?_
                      conv => cbv
                      subst hj
                      exact ⟨⟨.same _, .same _, .arr _ _ _ _ _ _ rfl, .arr _ _ _ _ _ _ rfl, trivial⟩, .same _, .same _, .same _, .same _, .same _, .same _, .same _, trivial⟩
                · unfold jetsamlaw17_InferChain_K3 at h
                  conv => cbv
                  refine den_back h hb1 fun j0 hj => ?_
                  conv => cbv
                  subst hj
                  exact ⟨⟨.same _, .same _, .arr _ _ _ _ _ _ rfl, .arr _ _ _ _ _ _ rfl, trivial⟩, .same _, .same _, .same _, .same _, .same _, .same _, .int _ _ _ rfl, trivial⟩
              · conv => cbv
                replace h := den_out h hx1
                refine den_join h fun j0 hj => ?_
                conv => cbv
                subst hj
                exact ⟨⟨.same _, .same _, .arr _ _ _ _ _ _ rfl, .arr _ _ _ _ _ _ rfl, trivial⟩, .same _, .same _, .same _, .same _, .same _, .same _, trivial⟩
          · unfold jetsamlaw17_InferChain_K1 at h
            conv => cbv
            refine den_lend e_i64 [e_info_Info (⟨(⟨(0 : Int), (0 : Int), (0 : Int)⟩ : api_Params), (0 : Int), (0 : Int), (0 : Int), (0 : Int), (0 : Int), (arrn [(0 : Int), (0 : Int), (0 : Int), (0 : Int), (0 : Int), (0 : Int), (0 : Int), (0 : Int), (0 : Int), (0 : Int), (0 : Int), (0 : Int), (0 : Int), (0 : Int), (0 : Int), (0 : Int)])⟩ : info_Info), e_chain_Guess (⟨(⟨(0 : Int), (0 : Int), (0 : Int)⟩ : api_Params), false, y0⟩ : chain_Guess), (e_sl 8 e_chain_Cand) j5.1] h (fun _ h => hP ▸ v_infer_Total h) (.cons _ _ _ _ (.agg _ _ (.cons _ _ _ _ (.int _ _ _ rfl) (.cons _ _ _ _ (.int _ _ _ rfl) (.cons _ _ _ _ (.int _ _ _ rfl) (.cons _ _ _ _ (.int _ _ _ rfl) (.cons _ _ _ _ (.int _ _ _ rfl) (.cons _ _ _ _ (.int _ _ _ rfl) (.cons _ _ _ _ (.int _ _ _ rfl) (.cons _ _ _ _ (.int _ _ _ rfl) (.cons _ _ _ _ (.int _ _ _ rfl) (.cons _ _ _ _ (.int _ _ _ rfl) (.cons _ _ _ _ (.int _ _ _ rfl) (.cons _ _ _ _ (.int _ _ _ rfl) (.cons _ _ _ _ (.int _ _ _ rfl) (.cons _ _ _ _ (.int _ _ _ rfl) (.cons _ _ _ _ (.int _ _ _ rfl) (.cons _ _ _ _ (.int _ _ _ rfl) (.cons _ _ _ _ (.int _ _ _ rfl) (.cons _ _ _ _ (.int _ _ _ rfl) (.cons _ _ _ _ (.int _ _ _ rfl) (.cons _ _ _ _ (.int _ _ _ rfl) (.cons _ _ _ _ (.int _ _ _ rfl) (.cons _ _ _ _ (.int _ _ _ rfl) (.cons _ _ _ _ (.int _ _ _ rfl) (.cons _ _ _ _ (.int _ _ _ rfl) .nil))))))))))))))))))))))))) (.cons _ _ _ _ (.agg _ _ (.cons _ _ _ _ (.int _ _ _ rfl) (.cons _ _ _ _ (.int _ _ _ rfl) (.cons _ _ _ _ (.int _ _ _ rfl) (.cons _ _ _ _ (.bool _ _ rfl) (.cons _ _ _ _ (.int _ _ _ rfl) .nil)))))) (.cons _ _ _ _ (.same _) .nil))) (fun _ => rfl) fun r6 _ h => ?_
            conv => cbv
            refine den_cut (r := r) (fun j7 : (List infer_Range) => ⟨[(0, .int .i64 (.v y0)), (1, .int .i64 (.v y1)), (7, .ptr 7 0), (8, .osl 62), (9, .osl 76), (12, .int .i64 (.v r6)), (13, .osl 97)], [(7, .var [.int .i64 (.lit 0), .int .i64 (.lit 0), .int .i64 (.lit 0), .bool (.lit false), .int .i64 (.v y0)]), (62, .arr false 41 8 e_chain_Cand j5.1), (76, .arr false 41 8 e_chain_Cand j5.2), (97, .arr false 25 2 e_infer_Range j7)], []⟩) (jetsamlaw17_InferChain_K2 y0 y1 j5 r6) ?_ (fun j7 h => ?_)
            · conv => cbv
              refine den_br h (fun _ h => ?_) (fun _ h => ?_)
              · conv => cbv
                refine .mk ?_
                conv => cbv
                refine .mk ?_
                conv => cbv
                refine den_app_nil e_infer_Range (xs := [(⟨(W (y0 * y2.a0)), (W (y0 * y2.a1))⟩ : infer_Range)]) h (News.sls (.cons _ _ _ _ (VEq.of_lepl (.cons _ _ _ _ (.int _ _ _ rfl) (.cons _ _ _ _ (.int _ _ _ rfl) .nil)) rfl) .nil)) fun l14 _ h => ?_
                conv => cbv
                refine den_join h fun j0 hj => ?_
                conv => cbv
                subst hj
                exact ⟨⟨.same _, .same _, .same _, .arr _ _ _ _ _ _ rfl, trivial⟩, .same _, .same _, .same _, .same _, .same _, .same _, .same _, trivial⟩
              · conv => cbv
                refine den_join h fun j0 hj => ?_
                conv => cbv
                subst hj
                exact ⟨⟨.same _, .same _, .same _, .arr _ _ _ _ _ _ rfl, trivial⟩, .same _, .same _, .same _, .same _, .same _, .same _, .own _ _ _ _ _ _ rfl rfl, trivial⟩
            · unfold jetsamlaw17_InferChain_K2 at h
              conv => cbv
              refine .mk ?_
              conv => cbv
              refine .mk ?_
              conv => cbv
              refine den_br h (fun _ h => ?_) (fun _ h => ?_)
              · conv => cbv
                refine den_call (e_sl 2 e_infer_Range) [e_chain_Guess (⟨(⟨(0 : Int), (0 : Int), (0 : Int)⟩ : api_Params), false, y0⟩ : chain_Guess), (e_sl 8 e_chain_Cand) j5.1] h (fun _ h => hP ▸ v_infer_Covered h) (.cons _ _ _ _ (.agg _ _ (.cons _ _ _ _ (.int _ _ _ rfl) (.cons _ _ _ _ (.int _ _ _ rfl) (.cons _ _ _ _ (.int _ _ _ rfl) (.cons _ _ _ _ (.bool _ _ rfl) (.cons _ _ _ _ (.int _ _ _ rfl) .nil)))))) (.cons _ _ _ _ (.same _) .nil)) rfl rfl (fun _ => rfl) fun r8 _ h => ?_
                conv => cbv
                refine den_call (e_sl 2 e_infer_Range) [e_i64 r6, (e_sl 2 e_infer_Range) r8] h (fun _ h => hP ▸ v_infer_Missing h) (.cons _ _ _ _ (.same _) (.cons _ _ _ _ (.same _) .nil)) rfl rfl (fun _ => rfl) fun r9 _ h => ?_
                conv => cbv
                refine .mk ?_
                conv => cbv
                refine den_br h (fun _ h => ?_) (fun _ h => ?_)
                · conv => cbv
                  refine den_call (e_sl 2 e_infer_Range) [e_chain_Guess (⟨(⟨(0 : Int), (0 : Int), (0 : Int)⟩ : api_Params), false, y0⟩ : chain_Guess), (e_sl 8 e_chain_Cand) j5.2] h (fun _ h => hP ▸ v_infer_Covered h) (.cons _ _ _ _ (.agg _ _ (.cons _ _ _ _ (.int _ _ _ rfl) (.cons _ _ _ _ (.int _ _ _ rfl) (.cons _ _ _ _ (.int _ _ _ rfl) (.cons _ _ _ _ (.bool _ _ rfl) (.cons _ _ _ _ (.int _ _ _ rfl) .nil)))))) (.cons _ _ _ _ (.same _) .nil)) rfl rfl (fun _ => rfl) fun r10 _ h => ?_
                  conv => cbv
                  refine den_call (e_sl 2 e_infer_Range) [e_i64 r6, (e_sl 2 e_infer_Range) r10] h (fun _ h => hP ▸ v_infer_Missing h) (.cons _ _ _ _ (.same _) (.cons _ _ _ _ (.same _) .nil)) rfl rfl (fun _ => rfl) fun r11 _ h => ?_
                  conv => cbv
                  refine .mk ?_
                  conv => cbv
                  refine den_lend e_bool [(e_sl 2 e_infer_Range) r11, (e_sl 2 e_infer_Range) j7] h (fun _ h => hP ▸ v_jetsamlaw17_Ranges h) (.cons _ _ _ _ (.same _) (.cons _ _ _ _ (.same _) .nil)) (fun _ => rfl) fun r12 _ h => ?_
                  conv => cbv
                  refine den_br h (fun _ h => ?_) (fun _ h => ?_)
                  · conv => cbv
                    refine den_call e_bool [] h (fun _ h => hP ▸ v_jetsamlaw17_awake h) .nil rfl rfl (fun _ => rfl) fun r13 _ h => ?_
                    conv => cbv
                    cases h
                    exact .same _
                  · conv => cbv
                    cases h
                    exact .bool _ _ rfl
                · conv => cbv
                  refine .mk ?_
                  conv => cbv
                  cases h
                  exact .bool _ _ rfl
              · conv => cbv
                refine .mk ?_
                conv => cbv
                refine .mk ?_
                conv => cbv
                cases h
                exact .bool _ _ rfl
end Go.Proofs.Ytpoljomhfcmdoaa
