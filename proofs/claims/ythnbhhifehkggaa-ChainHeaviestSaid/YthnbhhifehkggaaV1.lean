/- That the code answers so, printed by a program. -/
import Derived.Test.YthnbhhifehkggaaF1
import Derived.Test.YthnbhhifehkggaaSl
import Derived.Test.YthnbhhifehkggaaC1
import Derived.Shelf.SlSortCmp.NoneTotal
import Derived.Test.YthnbhhifehkggaaProg
set_option maxRecDepth 4000
set_option linter.all false
set_option linter.unusedVariables false
set_option linter.unusedSimpArgs false
namespace Go.Proofs.Ythnbhhifehkggaa
open Go Go.Vg
theorem Try_mixed : Try.prog.follows .mixedOrders = true := by kernel_rfl
def Tw_slices_Clone_schain_Cand_chain_Cand : Tab := [(26, ⟨.slice 45, 1, 24, [.nilsl]⟩), (45, ⟨.struct [(0, 23), (3, 3), (4, 3), (5, 3), (6, 3), (7, 4)], 8, 64, [.int .i64 (.lit 0), .int .i64 (.lit 0), .int .i64 (.lit 0), .int .i64 (.lit 0), .int .i64 (.lit 0), .int .i64 (.lit 0), .int .i64 (.lit 0), .bool (.lit false)]⟩)]
theorem Tw_slices_Clone_schain_Cand_chain_Cand_ok : TabOk Try.prog Tw_slices_Clone_schain_Cand_chain_Cand := by
  have h : Tw_slices_Clone_schain_Cand_chain_Cand = tabOf Try.prog [26, 45] := by kernel_rfl
  rw [h]; exact tabOk_of (by kernel_rfl)
theorem w_slices_Clone_schain_Cand_chain_Cand {y0 : List chain_Cand} {r : List chain_Cand} (h : slices_Clone_schain_Cand_chain_Cand y0 = some r) : ACalls Try.prog [] 38 [(e_sl 8 e_chain_Cand) y0] [] (fun x o' => x = .osl 20000 ∧ o' = [(20000, .arr false 45 8 e_chain_Cand r)]) := by
  refine acalls_of (c := ⟨Tw_slices_Clone_schain_Cand_chain_Cand, [], 8, [], []⟩) Try.func38 (by kernel_rfl) rfl rfl rfl Tw_slices_Clone_schain_Cand_chain_Cand_ok (eqsOk_of (by kernel_rfl)) Try_mixed rfl rfl rfl fun P hP _ => ?_
  unfold slices_Clone_schain_Cand_chain_Cand at h
  conv => cbv
  refine den_nil h (fun h hl => ?_) (fun h => ?_)
  · replace h : (some []) = some r := by
      simp only [hl] at h
      simpa [app] using h
    conv => cbv
    cases h
    refine .add 9999 45 8 e_chain_Cand rfl rfl ?_
    refine .mk [(9999, 20000, false)] [] rfl rfl ?_ ?_
    · conv => cbv
      try cases h
      exact ⟨.arr _ _ _ _ _ _ rfl, trivial⟩
    · conv => cbv
      try cases h
      exact .cons _ _ _ _ (.own _ _ _ _ _ _ rfl rfl) .nil
  · conv => cbv
    refine .own e_chain_Cand ?_
    conv => cbv
    refine den_app_own e_chain_Cand (xs := y0) h rfl (News.map rfl) fun l1 _ h => ?_
    conv => cbv
    refine .mk [(5, 20000, false)] [] rfl rfl ?_ ?_
    · conv => cbv
      cases h
      exact ⟨.arr _ _ _ _ _ _ rfl, trivial⟩
    · conv => cbv
      cases h
      exact .cons _ _ _ _ (.same _) .nil
def T_chain_may_c1 : Tab := []
theorem T_chain_may_c1_ok : TabOk Try.prog T_chain_may_c1 := by
  have h : T_chain_may_c1 = tabOf Try.prog [] := by kernel_rfl
  rw [h]; exact tabOk_of (by kernel_rfl)
theorem v_chain_may_c1 {y0 : Int} {y1 : Int} {r : Bool} (h : chain_may_c1 y0 y1 = some r) : AVal Try.prog [] 49 [e_i64 y0, e_i64 y1] (e_bool r) := by
  refine aval_of (c := ⟨T_chain_may_c1, [], 12, [], []⟩) Try.func49 (by kernel_rfl) rfl rfl rfl T_chain_may_c1_ok (eqsOk_of (by kernel_rfl)) Try_mixed rfl fun P hP _ => ?_
  unfold chain_may_c1 at h
  conv => cbv
  refine .mk ?_
  conv => cbv
  cases h
  exact .bool _ _ rfl
def T_chain_may : Tab := [(3, ⟨.int .i64, 1, 8, [.int .i64 (.lit 0)]⟩), (45, ⟨.struct [(0, 23), (3, 3), (4, 3), (5, 3), (6, 3), (7, 4)], 8, 64, [.int .i64 (.lit 0), .int .i64 (.lit 0), .int .i64 (.lit 0), .int .i64 (.lit 0), .int .i64 (.lit 0), .int .i64 (.lit 0), .int .i64 (.lit 0), .bool (.lit false)]⟩)]
theorem T_chain_may_ok : TabOk Try.prog T_chain_may := by
  have h : T_chain_may = tabOf Try.prog [3, 45] := by kernel_rfl
  rw [h]; exact tabOk_of (by kernel_rfl)
theorem v_chain_may {y0 : chain_Cand} {r : Bool} (h : chain_may y0 = some r) : AVal Try.prog [] 36 [e_chain_Cand y0] (e_bool r) := by
  refine aval_of (c := ⟨T_chain_may, [], 26, [], []⟩) Try.func36 (by kernel_rfl) rfl rfl rfl T_chain_may_ok (eqsOk_of (by kernel_rfl)) Try_mixed rfl fun P hP _ => ?_
  unfold chain_may at h
  conv => cbv
  refine .own ?_
  conv => cbv
  refine den_call e_bool [e_i64 y0.Offset, e_i64 (0 : Int)] h (fun _ h => hP ▸ v_chain_may_c1 h) (.cons _ _ _ _ (.same _) (.cons _ _ _ _ (.int _ _ _ rfl) .nil)) rfl rfl (fun _ => rfl) fun r1 _ h => ?_
  conv => cbv
  refine .mk ?_
  conv => cbv
  refine den_br h (fun _ h => ?_) (fun _ h => ?_)
  · conv => cbv
    refine den_call e_bool [e_i64 y0.Size, e_i64 (1 : Int)] h (fun _ h => hP ▸ v_chain_may_c1 h) (.cons _ _ _ _ (.same _) (.cons _ _ _ _ (.int _ _ _ rfl) .nil)) rfl rfl (fun _ => rfl) fun r2 _ h => ?_
    conv => cbv
    refine .mk ?_
    conv => cbv
    refine den_br h (fun _ h => ?_) (fun _ h => ?_)
    · conv => cbv
      refine den_call e_bool [e_i64 y0.Number, e_i64 (0 : Int)] h (fun _ h => hP ▸ v_chain_may_c1 h) (.cons _ _ _ _ (.same _) (.cons _ _ _ _ (.int _ _ _ rfl) .nil)) rfl rfl (fun _ => rfl) fun r3 _ h => ?_
      conv => cbv
      refine .mk ?_
      conv => cbv
      refine den_br h (fun _ h => ?_) (fun _ h => ?_)
      · conv => cbv
        refine den_call e_bool [e_i64 y0.Block, e_i64 (0 : Int)] h (fun _ h => hP ▸ v_chain_may_c1 h) (.cons _ _ _ _ (.same _) (.cons _ _ _ _ (.int _ _ _ rfl) .nil)) rfl rfl (fun _ => rfl) fun r4 _ h => ?_
        conv => cbv
        cases h
        exact .same _
      conv => cbv
      cases h
      exact .bool _ _ rfl
    conv => cbv
    refine .mk ?_
    conv => cbv
    cases h
    exact .bool _ _ rfl
  conv => cbv
  refine .mk ?_
  conv => cbv
  refine .mk ?_
  conv => cbv
  cases h
  exact .bool _ _ rfl
def T_chain_sorted_c1 : Tab := [(45, ⟨.struct [(0, 23), (3, 3), (4, 3), (5, 3), (6, 3), (7, 4)], 8, 64, [.int .i64 (.lit 0), .int .i64 (.lit 0), .int .i64 (.lit 0), .int .i64 (.lit 0), .int .i64 (.lit 0), .int .i64 (.lit 0), .int .i64 (.lit 0), .bool (.lit false)]⟩)]
theorem T_chain_sorted_c1_ok : TabOk Try.prog T_chain_sorted_c1 := by
  have h : T_chain_sorted_c1 = tabOf Try.prog [45] := by kernel_rfl
  rw [h]; exact tabOk_of (by kernel_rfl)
theorem v_chain_sorted_c1 {y0 : chain_Cand} {r : Bool} (h : chain_sorted_c1 y0 = some r) : AVal Try.prog [] 39 [e_chain_Cand y0] (e_bool r) := by
  refine aval_of (c := ⟨T_chain_sorted_c1, [], 6, [], []⟩) Try.func39 (by kernel_rfl) rfl rfl rfl T_chain_sorted_c1_ok (eqsOk_of (by kernel_rfl)) Try_mixed rfl fun P hP _ => ?_
  unfold chain_sorted_c1 at h
  conv => cbv
  refine .own ?_
  conv => cbv
  refine den_call e_bool [e_chain_Cand y0] h (fun _ h => hP ▸ v_chain_may h) (.cons _ _ _ _ (.same _) .nil) rfl rfl (fun _ => rfl) fun r1 _ h => ?_
  conv => cbv
  cases h
  exact .bool _ _ rfl
def Tx_slices_IndexFunc_schain_Cand_chain_Cand : Tab := [(26, ⟨.slice 45, 1, 24, [.nilsl]⟩), (45, ⟨.struct [(0, 23), (3, 3), (4, 3), (5, 3), (6, 3), (7, 4)], 8, 64, [.int .i64 (.lit 0), .int .i64 (.lit 0), .int .i64 (.lit 0), .int .i64 (.lit 0), .int .i64 (.lit 0), .int .i64 (.lit 0), .int .i64 (.lit 0), .bool (.lit false)]⟩)]
theorem Tx_slices_IndexFunc_schain_Cand_chain_Cand_ok : TabOk Try.prog Tx_slices_IndexFunc_schain_Cand_chain_Cand := by
  have h : Tx_slices_IndexFunc_schain_Cand_chain_Cand = tabOf Try.prog [26, 45] := by kernel_rfl
  rw [h]; exact tabOk_of (by kernel_rfl)
theorem x_slices_IndexFunc_schain_Cand_chain_Cand {y0 : List chain_Cand} {r : Int} (h : slices_IndexFunc_schain_Cand_chain_Cand y0 = some r) : ACalls Try.prog [] 37 [(e_sl 8 e_chain_Cand) y0, .fn 39 [] []] [] (fun x o' => x = .int .i64 (.v r) ∧ o' = []) := by
  refine acalls_of (c := ⟨Tx_slices_IndexFunc_schain_Cand_chain_Cand, [], 19, [], []⟩) Try.func37 (by kernel_rfl) rfl rfl rfl Tx_slices_IndexFunc_schain_Cand_chain_Cand_ok (eqsOk_of (by kernel_rfl)) Try_mixed rfl rfl rfl fun P hP _ => ?_
  unfold slices_IndexFunc_schain_Cand_chain_Cand at h
  conv => cbv
  refine den_cut (r := r) (fun j1 : Unit => ⟨[], [], []⟩) slices_IndexFunc_schain_Cand_chain_Cand_K1 ?_ (fun j1 h => ?_)
  · conv => cbv
    refine den_loop (slices_IndexFunc_schain_Cand_chain_Cand_L1 y0) h (fun a2 : Int => ⟨[(0, .sl 8 e_chain_Cand y0), (1, .fn 39 [] []), (7, .int .i64 (.len y0)), (8, .int .i64 (.v a2))], [], []⟩) ?_ (fun _ _ a2 x1 h hb1 hx1 => ?_)
    · intro j0 hj
      conv => cbv
      subst hj
      exact ⟨.same _, .same _, .same _, .int _ _ _ rfl, trivial⟩
    unfold slices_IndexFunc_schain_Cand_chain_Cand_L1 at h
    conv => cbv
    refine den_br h (fun _ h => ?_) (fun _ h => ?_)
    · conv => cbv
      refine .mk ?_
      conv => cbv
      refine den_elem h fun p3 _ h => ?_
      conv => cbv
      refine den_call e_bool [e_chain_Cand p3] h (fun _ h => hP ▸ v_chain_sorted_c1 h) (.cons _ _ _ _ (.same _) .nil) rfl rfl (fun _ => rfl) fun r4 _ h => ?_
      conv => cbv
      refine den_br h (fun _ h => ?_) (fun _ h => ?_)
      · conv => cbv
        replace h := den_out h hx1
        refine .mk [] [] rfl rfl ?_ ?_
        · conv => cbv
          cases h
          trivial
        conv => cbv
        cases h
        exact .cons _ _ _ _ (.int _ _ _ rfl) .nil
      conv => cbv
      refine den_back h hb1 fun j0 hj => ?_
      conv => cbv
      subst hj
      exact ⟨.same _, .same _, .same _, .int _ _ _ rfl, trivial⟩
    conv => cbv
    replace h := den_out h hx1
    refine den_join h fun j0 hj => ?_
    conv => cbv
    subst hj
    exact trivial
  unfold slices_IndexFunc_schain_Cand_chain_Cand_K1 at h
  conv => cbv
  refine .mk [] [] rfl rfl ?_ ?_
  · conv => cbv
    cases h
    trivial
  conv => cbv
  cases h
  exact .cons _ _ _ _ (.int _ _ _ rfl) .nil
def Tx_slices_DeleteFunc_schain_Cand_chain_Cand : Tab := [(26, ⟨.slice 45, 1, 24, [.nilsl]⟩), (45, ⟨.struct [(0, 23), (3, 3), (4, 3), (5, 3), (6, 3), (7, 4)], 8, 64, [.int .i64 (.lit 0), .int .i64 (.lit 0), .int .i64 (.lit 0), .int .i64 (.lit 0), .int .i64 (.lit 0), .int .i64 (.lit 0), .int .i64 (.lit 0), .bool (.lit false)]⟩)]
theorem Tx_slices_DeleteFunc_schain_Cand_chain_Cand_ok : TabOk Try.prog Tx_slices_DeleteFunc_schain_Cand_chain_Cand := by
  have h : Tx_slices_DeleteFunc_schain_Cand_chain_Cand = tabOf Try.prog [26, 45] := by kernel_rfl
  rw [h]; exact tabOk_of (by kernel_rfl)
theorem x_slices_DeleteFunc_schain_Cand_chain_Cand {y0 : List chain_Cand} {r : (List chain_Cand)} (h : slices_DeleteFunc_schain_Cand_chain_Cand y0 = some r) : ACalls Try.prog [] 20 [.osl 10000, .fn 39 [] []] [(10000, .arr false 45 8 e_chain_Cand y0)] (fun x o' => x = .osl 10000 ∧ o' = [(10000, .arr false 45 8 e_chain_Cand r)]) := by
  refine acalls_of (c := ⟨Tx_slices_DeleteFunc_schain_Cand_chain_Cand, [], 42, [], []⟩) Try.func20 (by kernel_rfl) rfl rfl rfl Tx_slices_DeleteFunc_schain_Cand_chain_Cand_ok (eqsOk_of (by kernel_rfl)) Try_mixed rfl rfl rfl fun P hP _ => ?_
  unfold slices_DeleteFunc_schain_Cand_chain_Cand at h
  conv => cbv
  refine den_lend (fun r : Int => .int .i64 (.v r)) [(e_sl 8 e_chain_Cand) y0, .fn 39 [] []] h (fun _ h => hP ▸ (x_slices_IndexFunc_schain_Cand_chain_Cand h).mono (fun _ _ h => h.1)) (.cons _ _ _ _ (.same _) (.cons _ _ _ _ (.same _) .nil)) (fun _ => rfl) fun r1 _ h => ?_
  conv => cbv
  refine den_br h (fun _ h => ?_) (fun _ h => ?_)
  · conv => cbv
    refine .mk [(10000, 10000, false)] [] rfl rfl ?_ ?_
    · conv => cbv
      cases h
      exact ⟨.arr _ _ _ _ _ _ rfl, trivial⟩
    conv => cbv
    cases h
    exact .cons _ _ _ _ (.same _) .nil
  conv => cbv
  refine den_cut (r := r) (fun j2 : Int × (List chain_Cand) => ⟨[(0, .osl 10000), (5, .int .i64 (.v j2.1))], [(10000, .arr false 45 8 e_chain_Cand j2.2)], []⟩) slices_DeleteFunc_schain_Cand_chain_Cand_K1 ?_ (fun j2 h => ?_)
  · conv => cbv
    refine den_loop slices_DeleteFunc_schain_Cand_chain_Cand_L1 h (fun a7 : Int × Int × (List chain_Cand) => ⟨[(0, .osl 10000), (1, .fn 39 [] []), (5, .int .i64 (.v a7.1)), (6, .int .i64 (.v a7.2.1))], [(10000, .arr false 45 8 e_chain_Cand a7.2.2)], []⟩) ?_ (fun _ _ a7 x1 h hb1 hx1 => ?_)
    · intro j0 hj
      conv => cbv
      subst hj
      exact ⟨⟨.arr _ _ _ _ _ _ rfl, trivial⟩, .same _, .same _, .int _ _ _ rfl, .int _ _ _ rfl, trivial⟩
    unfold slices_DeleteFunc_schain_Cand_chain_Cand_L1 at h
    conv => cbv
    refine den_br h (fun _ h => ?_) (fun _ h => ?_)
    · conv => cbv
      refine den_cut (r := x1) (fun j8 : Int × (List chain_Cand) => ⟨[(0, .osl 10000), (1, .fn 39 [] []), (5, .int .i64 (.v j8.1)), (6, .int .i64 (.v a7.2.1))], [(10000, .arr false 45 8 e_chain_Cand j8.2)], []⟩) (slices_DeleteFunc_schain_Cand_chain_Cand_K2 a7) ?_ (fun j8 h => ?_)
      · conv => cbv
        refine .mk ?_
        conv => cbv
        refine den_chk h fun h => ?_
        conv => cbv
        refine den_chk h fun h => ?_
        conv => cbv
        refine den_eload h fun p9 _ h => ?_
        conv => cbv
        refine den_call e_bool [e_chain_Cand p9] h (fun _ h => hP ▸ v_chain_sorted_c1 h) (.cons _ _ _ _ (.same _) .nil) rfl rfl (fun _ => rfl) fun r10 _ h => ?_
        conv => cbv
        refine den_br h (fun _ h => ?_) (fun _ h => ?_)
        · conv => cbv
          refine den_chk h fun h => ?_
          conv => cbv
          refine den_chk h fun h => ?_
          conv => cbv
          refine den_estore (f := e_chain_Cand) p9 h (fun _ => CEqL.of_lepl (.cons _ _ _ _ (.same _) (.cons _ _ _ _ (.same _) (.cons _ _ _ _ (.same _) (.cons _ _ _ _ (.same _) (.cons _ _ _ _ (.same _) (.cons _ _ _ _ (.same _) (.cons _ _ _ _ (.same _) (.cons _ _ _ _ (.same _) .nil)))))))) rfl) fun l11 _ h => ?_
          conv => cbv
          refine den_join h fun j0 hj => ?_
          conv => cbv
          subst hj
          exact ⟨⟨.arr _ _ _ _ _ _ rfl, trivial⟩, .same _, .same _, .int _ _ _ rfl, .same _, trivial⟩
        conv => cbv
        refine den_join h fun j0 hj => ?_
        conv => cbv
        subst hj
        exact ⟨⟨.arr _ _ _ _ _ _ rfl, trivial⟩, .same _, .same _, .int _ _ _ rfl, .same _, trivial⟩
      unfold slices_DeleteFunc_schain_Cand_chain_Cand_K2 at h
      conv => cbv
      refine den_back h hb1 fun j0 hj => ?_
      conv => cbv
      subst hj
      exact ⟨⟨.arr _ _ _ _ _ _ rfl, trivial⟩, .same _, .same _, .int _ _ _ rfl, .int _ _ _ rfl, trivial⟩
    conv => cbv
    replace h := den_out h hx1
    refine den_join h fun j0 hj => ?_
    conv => cbv
    subst hj
    exact ⟨⟨.arr _ _ _ _ _ _ rfl, trivial⟩, .same _, .int _ _ _ rfl, trivial⟩
  unfold slices_DeleteFunc_schain_Cand_chain_Cand_K1 at h
  conv => cbv
  refine den_subo_v h fun l3 il3 ml3 hil3 hml3 _ h => ?_
  conv => cbv
  subst hil3
  subst hml3
  refine den_clear e_chain_Cand j2.1 ((j2.2.length : Int) - j2.1) (⟨(⟨(0 : Int), (0 : Int), (0 : Int)⟩ : api_Params), (0 : Int), (0 : Int), (0 : Int), (0 : Int), false⟩ : chain_Cand) h rfl (.inr ⟨_, _, rfl, rfl, rfl⟩) (CEqL.of_lepl (.cons _ _ _ _ (.int _ _ _ rfl) (.cons _ _ _ _ (.int _ _ _ rfl) (.cons _ _ _ _ (.int _ _ _ rfl) (.cons _ _ _ _ (.int _ _ _ rfl) (.cons _ _ _ _ (.int _ _ _ rfl) (.cons _ _ _ _ (.int _ _ _ rfl) (.cons _ _ _ _ (.int _ _ _ rfl) (.cons _ _ _ _ (.bool _ _ rfl) .nil)))))))) rfl) (fun h => ?_) (fun l4 _ h => ?_)
  · conv => cbv
    refine den_subo_t h rfl fun l5 _ h => ?_
    conv => cbv
    refine .mk [(10000, 10000, false)] [] rfl rfl ?_ ?_
    · conv => cbv
      cases h
      exact ⟨.arr _ _ _ _ _ _ rfl, trivial⟩
    conv => cbv
    cases h
    exact .cons _ _ _ _ (.same _) .nil
  · conv => cbv
    refine den_subo_t h rfl fun l6 _ h => ?_
    conv => cbv
    refine .mk [(10000, 10000, false)] [] rfl rfl ?_ ?_
    · conv => cbv
      cases h
      exact ⟨.arr _ _ _ _ _ _ rfl, trivial⟩
    conv => cbv
    cases h
    exact .cons _ _ _ _ (.same _) .nil
def T_cmp_isNaN_int : Tab := []
theorem T_cmp_isNaN_int_ok : TabOk Try.prog T_cmp_isNaN_int := by
  have h : T_cmp_isNaN_int = tabOf Try.prog [] := by kernel_rfl
  rw [h]; exact tabOk_of (by kernel_rfl)
theorem v_cmp_isNaN_int {y0 : Int} {r : Bool} (h : cmp_isNaN_int y0 = some r) : AVal Try.prog [] 67 [e_i64 y0] (e_bool r) := by
  refine aval_of (c := ⟨T_cmp_isNaN_int, [], 6, [], []⟩) Try.func67 (by kernel_rfl) rfl rfl rfl T_cmp_isNaN_int_ok (eqsOk_of (by kernel_rfl)) Try_mixed rfl fun P hP _ => ?_
  unfold cmp_isNaN_int at h
  conv => cbv
  cases h
  exact .bool _ _ rfl
def T_cmp_Compare_int : Tab := []
theorem T_cmp_Compare_int_ok : TabOk Try.prog T_cmp_Compare_int := by
  have h : T_cmp_Compare_int = tabOf Try.prog [] := by kernel_rfl
  rw [h]; exact tabOk_of (by kernel_rfl)
theorem v_cmp_Compare_int {y0 : Int} {y1 : Int} {r : Int} (h : cmp_Compare_int y0 y1 = some r) : AVal Try.prog [] 53 [e_i64 y0, e_i64 y1] (e_i64 r) := by
  refine aval_of (c := ⟨T_cmp_Compare_int, [], 20, [], []⟩) Try.func53 (by kernel_rfl) rfl rfl rfl T_cmp_Compare_int_ok (eqsOk_of (by kernel_rfl)) Try_mixed rfl fun P hP _ => ?_
  unfold cmp_Compare_int at h
  conv => cbv
  refine den_call e_bool [e_i64 y0] h (fun _ h => hP ▸ v_cmp_isNaN_int h) (.cons _ _ _ _ (.same _) .nil) rfl rfl (fun _ => rfl) fun r1 _ h => ?_
  conv => cbv
  refine den_call e_bool [e_i64 y1] h (fun _ h => hP ▸ v_cmp_isNaN_int h) (.cons _ _ _ _ (.same _) .nil) rfl rfl (fun _ => rfl) fun r2 _ h => ?_
  conv => cbv
  refine den_br h (fun _ h => ?_) (fun _ h => ?_)
  · conv => cbv
    refine den_br h (fun _ h => ?_) (fun _ h => ?_)
    · conv => cbv
      cases h
      exact .int _ _ _ rfl
    conv => cbv
    cases h
    exact .int _ _ _ rfl
  conv => cbv
  refine den_br h (fun _ h => ?_) (fun _ h => ?_)
  · conv => cbv
    cases h
    exact .int _ _ _ rfl
  conv => cbv
  refine den_br h (fun _ h => ?_) (fun _ h => ?_)
  · conv => cbv
    cases h
    exact .int _ _ _ rfl
  conv => cbv
  refine den_br h (fun _ h => ?_) (fun _ h => ?_)
  · conv => cbv
    cases h
    exact .int _ _ _ rfl
  conv => cbv
  cases h
  exact .int _ _ _ rfl
def T_chain_flag : Tab := []
theorem T_chain_flag_ok : TabOk Try.prog T_chain_flag := by
  have h : T_chain_flag = tabOf Try.prog [] := by kernel_rfl
  rw [h]; exact tabOk_of (by kernel_rfl)
theorem v_chain_flag {y0 : Bool} {r : Int} (h : chain_flag y0 = some r) : AVal Try.prog [] 54 [e_bool y0] (e_i64 r) := by
  refine aval_of (c := ⟨T_chain_flag, [], 4, [], []⟩) Try.func54 (by kernel_rfl) rfl rfl rfl T_chain_flag_ok (eqsOk_of (by kernel_rfl)) Try_mixed rfl fun P hP _ => ?_
  unfold chain_flag at h
  conv => cbv
  refine den_br h (fun _ h => ?_) (fun _ h => ?_)
  · conv => cbv
    cases h
    exact .int _ _ _ rfl
  conv => cbv
  cases h
  exact .int _ _ _ rfl
def T_cmp_Or_int : Tab := [(3, ⟨.int .i64, 1, 8, [.int .i64 (.lit 0)]⟩), (99, ⟨.slice 3, 1, 24, [.nilsl]⟩)]
theorem T_cmp_Or_int_ok : TabOk Try.prog T_cmp_Or_int := by
  have h : T_cmp_Or_int = tabOf Try.prog [3, 99] := by kernel_rfl
  rw [h]; exact tabOk_of (by kernel_rfl)
theorem v_cmp_Or_int {y0 : List Int} {r : Int} (h : cmp_Or_int y0 = some r) : AVal Try.prog [] 52 [(e_sl 1 e_i64) y0] (e_i64 r) := by
  refine aval_of (c := ⟨T_cmp_Or_int, [], 18, [], []⟩) Try.func52 (by kernel_rfl) rfl rfl rfl T_cmp_Or_int_ok (eqsOk_of (by kernel_rfl)) Try_mixed rfl fun P hP _ => ?_
  unfold cmp_Or_int at h
  conv => cbv
  refine den_cut (r := r) (fun j1 : Unit => ⟨[(3, .int .i64 (.lit 0))], [], []⟩) cmp_Or_int_K1 ?_ (fun j1 h => ?_)
  · conv => cbv
    refine den_loop (cmp_Or_int_L1 y0) h (fun a2 : Int => ⟨[(3, .int .i64 (.lit 0)), (6, .sl 1 e_i64 y0), (7, .int .i64 (.len y0)), (8, .int .i64 (.v a2))], [], []⟩) ?_ (fun _ _ a2 x1 h hb1 hx1 => ?_)
    · intro j0 hj
      conv => cbv
      subst hj
      exact ⟨.same _, .same _, .same _, .int _ _ _ rfl, trivial⟩
    unfold cmp_Or_int_L1 at h
    conv => cbv
    refine den_br h (fun _ h => ?_) (fun _ h => ?_)
    · conv => cbv
      refine den_elem h fun p3 _ h => ?_
      conv => cbv
      refine den_br h (fun _ h => ?_) (fun _ h => ?_)
      · conv => cbv
        replace h := den_out h hx1
        cases h
        exact .same _
      conv => cbv
      refine den_back h hb1 fun j0 hj => ?_
      conv => cbv
      subst hj
      exact ⟨.same _, .same _, .same _, .int _ _ _ rfl, trivial⟩
    conv => cbv
    replace h := den_out h hx1
    refine den_join h fun j0 hj => ?_
    conv => cbv
    subst hj
    exact ⟨.same _, trivial⟩
  unfold cmp_Or_int_K1 at h
  conv => cbv
  cases h
  exact .int _ _ _ rfl
def T_chain_params : Tab := [(3, ⟨.int .i64, 1, 8, [.int .i64 (.lit 0)]⟩), (23, ⟨.struct [(0, 3), (1, 3), (2, 3)], 3, 24, [.int .i64 (.lit 0), .int .i64 (.lit 0), .int .i64 (.lit 0)]⟩), (99, ⟨.slice 3, 1, 24, [.nilsl]⟩)]
theorem T_chain_params_ok : TabOk Try.prog T_chain_params := by
  have h : T_chain_params = tabOf Try.prog [3, 23, 99] := by kernel_rfl
  rw [h]; exact tabOk_of (by kernel_rfl)
theorem v_chain_params {y0 : api_Params} {y1 : api_Params} {r : Int} (h : chain_params y0 y1 = some r) : AVal Try.prog [] 55 [e_api_Params y0, e_api_Params y1] (e_i64 r) := by
  refine aval_of (c := ⟨T_chain_params, [], 22, [], []⟩) Try.func55 (by kernel_rfl) rfl rfl rfl T_chain_params_ok (eqsOk_of (by kernel_rfl)) Try_mixed rfl fun P hP _ => ?_
  unfold chain_params at h
  conv => cbv
  refine .own ?_
  conv => cbv
  refine .own ?_
  conv => cbv
  refine .dup ?_
  conv => cbv
  refine .mk (some []) (by kernel_rfl) ?_
  conv => cbv
  refine .mk ?_
  conv => cbv
  refine .mk ?_
  conv => cbv
  refine den_call e_i64 [e_i64 y0.Rate, e_i64 y1.Rate] h (fun _ h => hP ▸ v_cmp_Compare_int h) (.cons _ _ _ _ (.same _) (.cons _ _ _ _ (.same _) .nil)) rfl rfl (fun _ => rfl) fun r1 _ h => ?_
  conv => cbv
  refine den_call e_i64 [e_i64 y0.Channels, e_i64 y1.Channels] h (fun _ h => hP ▸ v_cmp_Compare_int h) (.cons _ _ _ _ (.same _) (.cons _ _ _ _ (.same _) .nil)) rfl rfl (fun _ => rfl) fun r2 _ h => ?_
  conv => cbv
  refine den_call e_i64 [e_i64 y0.Depth, e_i64 y1.Depth] h (fun _ h => hP ▸ v_cmp_Compare_int h) (.cons _ _ _ _ (.same _) (.cons _ _ _ _ (.same _) .nil)) rfl rfl (fun _ => rfl) fun r3 _ h => ?_
  conv => cbv
  refine .data ?_
  conv => cbv
  refine den_call e_i64 [(e_sl 1 e_i64) [r1, r2, r3]] h (fun _ h => hP ▸ v_cmp_Or_int h) (.cons _ _ _ _ (.sls (.cons _ _ _ _ (VEq.of_lepl (.cons _ _ _ _ (.same _) .nil) rfl) (.cons _ _ _ _ (VEq.of_lepl (.cons _ _ _ _ (.same _) .nil) rfl) (.cons _ _ _ _ (VEq.of_lepl (.cons _ _ _ _ (.same _) .nil) rfl) .nil)))) .nil) rfl rfl (fun _ => rfl) fun r4 _ h => ?_
  conv => cbv
  refine .mk ?_
  conv => cbv
  cases h
  exact .same _
def T_chain_Compare : Tab := [(3, ⟨.int .i64, 1, 8, [.int .i64 (.lit 0)]⟩), (4, ⟨.bool, 1, 1, [.bool (.lit false)]⟩), (23, ⟨.struct [(0, 3), (1, 3), (2, 3)], 3, 24, [.int .i64 (.lit 0), .int .i64 (.lit 0), .int .i64 (.lit 0)]⟩), (45, ⟨.struct [(0, 23), (3, 3), (4, 3), (5, 3), (6, 3), (7, 4)], 8, 64, [.int .i64 (.lit 0), .int .i64 (.lit 0), .int .i64 (.lit 0), .int .i64 (.lit 0), .int .i64 (.lit 0), .int .i64 (.lit 0), .int .i64 (.lit 0), .bool (.lit false)]⟩), (99, ⟨.slice 3, 1, 24, [.nilsl]⟩)]
theorem T_chain_Compare_ok : TabOk Try.prog T_chain_Compare := by
  have h : T_chain_Compare = tabOf Try.prog [3, 4, 23, 45, 99] := by kernel_rfl
  rw [h]; exact tabOk_of (by kernel_rfl)
theorem v_chain_Compare {y0 : chain_Cand} {y1 : chain_Cand} {r : Int} (h : chain_Compare y0 y1 = some r) : AVal Try.prog [] 41 [e_chain_Cand y0, e_chain_Cand y1] (e_i64 r) := by
  refine aval_of (c := ⟨T_chain_Compare, [], 39, [], []⟩) Try.func41 (by kernel_rfl) rfl rfl rfl T_chain_Compare_ok (eqsOk_of (by kernel_rfl)) Try_mixed rfl fun P hP _ => ?_
  unfold chain_Compare at h
  conv => cbv
  refine .own ?_
  conv => cbv
  refine .own ?_
  conv => cbv
  refine .dup ?_
  conv => cbv
  refine .mk (some []) (by kernel_rfl) ?_
  conv => cbv
  refine .mk ?_
  conv => cbv
  refine .mk ?_
  conv => cbv
  refine .mk ?_
  conv => cbv
  refine .mk ?_
  conv => cbv
  refine den_call e_i64 [e_i64 y0.Offset, e_i64 y1.Offset] h (fun _ h => hP ▸ v_cmp_Compare_int h) (.cons _ _ _ _ (.same _) (.cons _ _ _ _ (.same _) .nil)) rfl rfl (fun _ => rfl) fun r1 _ h => ?_
  conv => cbv
  refine den_call e_i64 [e_i64 y0.Size, e_i64 y1.Size] h (fun _ h => hP ▸ v_cmp_Compare_int h) (.cons _ _ _ _ (.same _) (.cons _ _ _ _ (.same _) .nil)) rfl rfl (fun _ => rfl) fun r2 _ h => ?_
  conv => cbv
  refine den_call e_i64 [e_i64 y0.Number, e_i64 y1.Number] h (fun _ h => hP ▸ v_cmp_Compare_int h) (.cons _ _ _ _ (.same _) (.cons _ _ _ _ (.same _) .nil)) rfl rfl (fun _ => rfl) fun r3 _ h => ?_
  conv => cbv
  refine den_call e_i64 [e_i64 y0.Block, e_i64 y1.Block] h (fun _ h => hP ▸ v_cmp_Compare_int h) (.cons _ _ _ _ (.same _) (.cons _ _ _ _ (.same _) .nil)) rfl rfl (fun _ => rfl) fun r4 _ h => ?_
  conv => cbv
  refine den_call e_i64 [e_bool y0.Variable] h (fun _ h => hP ▸ v_chain_flag h) (.cons _ _ _ _ (.same _) .nil) rfl rfl (fun _ => rfl) fun r5 _ h => ?_
  conv => cbv
  refine .mk ?_
  conv => cbv
  refine den_call e_i64 [e_bool y1.Variable] h (fun _ h => hP ▸ v_chain_flag h) (.cons _ _ _ _ (.same _) .nil) rfl rfl (fun _ => rfl) fun r6 _ h => ?_
  conv => cbv
  refine den_call e_i64 [e_i64 r5, e_i64 r6] h (fun _ h => hP ▸ v_cmp_Compare_int h) (.cons _ _ _ _ (.same _) (.cons _ _ _ _ (.same _) .nil)) rfl rfl (fun _ => rfl) fun r7 _ h => ?_
  conv => cbv
  refine den_call e_i64 [e_api_Params y0.Params, e_api_Params y1.Params] h (fun _ h => hP ▸ v_chain_params h) (.cons _ _ _ _ (.same _) (.cons _ _ _ _ (.same _) .nil)) rfl rfl (fun _ => rfl) fun r8 _ h => ?_
  conv => cbv
  refine .data ?_
  conv => cbv
  refine den_call e_i64 [(e_sl 1 e_i64) [r1, r2, r3, r4, r7, r8]] h (fun _ h => hP ▸ v_cmp_Or_int h) (.cons _ _ _ _ (.sls (.cons _ _ _ _ (VEq.of_lepl (.cons _ _ _ _ (.same _) .nil) rfl) (.cons _ _ _ _ (VEq.of_lepl (.cons _ _ _ _ (.same _) .nil) rfl) (.cons _ _ _ _ (VEq.of_lepl (.cons _ _ _ _ (.same _) .nil) rfl) (.cons _ _ _ _ (VEq.of_lepl (.cons _ _ _ _ (.same _) .nil) rfl) (.cons _ _ _ _ (VEq.of_lepl (.cons _ _ _ _ (.same _) .nil) rfl) (.cons _ _ _ _ (VEq.of_lepl (.cons _ _ _ _ (.same _) .nil) rfl) .nil))))))) .nil) rfl rfl (fun _ => rfl) fun r9 _ h => ?_
  conv => cbv
  cases h
  exact .same _
section
open Go.Shelf Go.RowKit Go.Lib Go.Sort
instance : Inhabited chain_Cand := ⟨⟨⟨0, 0, 0⟩, 0, 0, 0, 0, false⟩⟩
def cells_chain_Cand (x : chain_Cand) : List Value := [.int .i64 (IntKind.i64.wrap x.Params.Rate), .int .i64 (IntKind.i64.wrap x.Params.Channels), .int .i64 (IntKind.i64.wrap x.Params.Depth), .int .i64 (IntKind.i64.wrap x.Offset), .int .i64 (IntKind.i64.wrap x.Size), .int .i64 (IntKind.i64.wrap x.Number), .int .i64 (IntKind.i64.wrap x.Block), .bool x.Variable]
def norm_chain_Cand (x : chain_Cand) : chain_Cand := ⟨⟨IntKind.i64.wrap x.Params.Rate, IntKind.i64.wrap x.Params.Channels, IntKind.i64.wrap x.Params.Depth⟩, IntKind.i64.wrap x.Offset, IntKind.i64.wrap x.Size, IntKind.i64.wrap x.Number, IntKind.i64.wrap x.Block, x.Variable⟩
theorem isAgg_chain_Cand (w : World) : (isAgg 45).run Try.prog w = .ok true w := Try.isAgg45 w
theorem sizeOf_chain_Cand (w : World) : (Go.sizeOf 45).run Try.prog w = .ok 8 w := Try.sizeOf45 w
theorem s_chain_Compare {l r : List chain_Cand} (h : sortG l chain_Compare = some r) : ACalls Try.prog [] 40 [.osl 10000, .fn 41 [] []] [(10000, .arr true 45 8 e_chain_Cand l)] (fun x o' => x = .tup [] ∧ o' = [(10000, .arr true 45 8 e_chain_Cand r)]) := by
  have h1 : ∀ x, ∀ v ∈ cells_chain_Cand x, v.oneCell' = true := fun x v hv => by
    simp only [cells_chain_Cand, List.mem_cons, List.not_mem_nil, or_false] at hv
    rcases hv with rfl | rfl | rfl | rfl | rfl | rfl | rfl | rfl <;> rfl
  refine acalls_sort (P := Try.prog) (fs := 40) (g := 41) 8 cells_chain_Cand e_chain_Cand norm_chain_Cand chain_Compare ⟨_, Try.func40, rfl, rfl⟩ (fun _ => rfl) h1 (by decide) (fun _ => rfl) (fun _ => rfl) (fun x w Fr => ?_) (fun x w Fr cs hc => ?_)
    (fun x y => ⟨_, cCompare_eq x y⟩) (fun x y i hi => v_chain_Compare hi) (swo_key ckey 8 (fun _ => rfl) cCompare_lt) (tot_key ckey 8 (fun _ => rfl) cCompare_lt ckey_inj)
    (fun cf hO blk cap d w eg hcmp hH hb hsz => AnyQ.slices_SortFunc Try.sortL 8 isAgg_chain_Cand sizeOf_chain_Cand cells_chain_Cand (fun _ => rfl) h1 cf hO 41 #[] blk 0 cap d w eg hcmp hH hb hsz)
    (fun p cap fv w => AnyF.slices_SortFunc_none Try.sortL p cap fv w) l r h
  · refine .agg _ _ rfl (fun c hc => h1 x c (by simpa using hc)) fun i c y hi hy => ?_
    match i with
    | 0 => cases hi; cases hy; exact .int _ _ _ rfl (wrap_has _ _)
    | 1 => cases hi; cases hy; exact .int _ _ _ rfl (wrap_has _ _)
    | 2 => cases hi; cases hy; exact .int _ _ _ rfl (wrap_has _ _)
    | 3 => cases hi; cases hy; exact .int _ _ _ rfl (wrap_has _ _)
    | 4 => cases hi; cases hy; exact .int _ _ _ rfl (wrap_has _ _)
    | 5 => cases hi; cases hy; exact .int _ _ _ rfl (wrap_has _ _)
    | 6 => cases hi; cases hy; exact .int _ _ _ rfl (wrap_has _ _)
    | 7 => cases hi; cases hy; exact .bool _ _ rfl
    | i + 8 => simp [cells_chain_Cand] at hi
  · obtain ⟨e0, k0⟩ := RA.of_int (e := .v x.Params.Rate) (RA.d (β := fun _ => none) (o := []) _ _ (hc 0 _ rfl))
    obtain ⟨e1, k1⟩ := RA.of_int (e := .v x.Params.Channels) (RA.d (β := fun _ => none) (o := []) _ _ (hc 1 _ rfl))
    obtain ⟨e2, k2⟩ := RA.of_int (e := .v x.Params.Depth) (RA.d (β := fun _ => none) (o := []) _ _ (hc 2 _ rfl))
    obtain ⟨e3, k3⟩ := RA.of_int (e := .v x.Offset) (RA.d (β := fun _ => none) (o := []) _ _ (hc 3 _ rfl))
    obtain ⟨e4, k4⟩ := RA.of_int (e := .v x.Size) (RA.d (β := fun _ => none) (o := []) _ _ (hc 4 _ rfl))
    obtain ⟨e5, k5⟩ := RA.of_int (e := .v x.Number) (RA.d (β := fun _ => none) (o := []) _ _ (hc 5 _ rfl))
    obtain ⟨e6, k6⟩ := RA.of_int (e := .v x.Block) (RA.d (β := fun _ => none) (o := []) _ _ (hc 6 _ rfl))
    have e7 := RA.of_bool (e := .v x.Variable) (RA.d (β := fun _ => none) (o := []) _ _ (hc 7 _ rfl))
    simp only [IE.den, BE.den] at e0 e1 e2 e3 e4 e5 e6 e7 k0 k1 k2 k3 k4 k5 k6
    refine ⟨by simp only [norm_chain_Cand, wrap_id k0, wrap_id k1, wrap_id k2, wrap_id k3, wrap_id k4, wrap_id k5, wrap_id k6], fun j hj => ?_⟩
    match j, hj with
    | 0, _ => simp [cells_chain_Cand, wrap_id k0, e0]
    | 1, _ => simp [cells_chain_Cand, wrap_id k1, e1]
    | 2, _ => simp [cells_chain_Cand, wrap_id k2, e2]
    | 3, _ => simp [cells_chain_Cand, wrap_id k3, e3]
    | 4, _ => simp [cells_chain_Cand, wrap_id k4, e4]
    | 5, _ => simp [cells_chain_Cand, wrap_id k5, e5]
    | 6, _ => simp [cells_chain_Cand, wrap_id k6, e6]
    | 7, _ => simp [cells_chain_Cand, e7]
end
def Tw_slices_Compact_schain_Cand_chain_Cand : Tab := [(26, ⟨.slice 45, 1, 24, [.nilsl]⟩), (45, ⟨.struct [(0, 23), (3, 3), (4, 3), (5, 3), (6, 3), (7, 4)], 8, 64, [.int .i64 (.lit 0), .int .i64 (.lit 0), .int .i64 (.lit 0), .int .i64 (.lit 0), .int .i64 (.lit 0), .int .i64 (.lit 0), .int .i64 (.lit 0), .bool (.lit false)]⟩)]
theorem Tw_slices_Compact_schain_Cand_chain_Cand_ok : TabOk Try.prog Tw_slices_Compact_schain_Cand_chain_Cand := by
  have h : Tw_slices_Compact_schain_Cand_chain_Cand = tabOf Try.prog [26, 45] := by kernel_rfl
  rw [h]; exact tabOk_of (by kernel_rfl)
theorem w_slices_Compact_schain_Cand_chain_Cand {y0 : List chain_Cand} {r : List chain_Cand} (h : slices_Compact_schain_Cand_chain_Cand y0 = some r) : ACalls Try.prog [] 42 [.osl 10000] [(10000, .arr false 45 8 e_chain_Cand y0)] (fun x o' => x = .osl 10000 ∧ o' = [(10000, .arr false 45 8 e_chain_Cand r)]) := by
  refine acalls_of (c := ⟨Tw_slices_Compact_schain_Cand_chain_Cand, [], 61, [], [(45, [.i, .i, .i, .i, .i, .i, .i, .b])]⟩) Try.func42 (by kernel_rfl) rfl rfl rfl Tw_slices_Compact_schain_Cand_chain_Cand_ok (eqsOk_of (by kernel_rfl)) Try_mixed rfl rfl rfl fun P hP _ => ?_
  unfold slices_Compact_schain_Cand_chain_Cand at h
  conv => cbv
  refine den_br h (fun _ h => ?_) (fun _ h => ?_)
  · conv => cbv
    refine .mk [(10000, 10000, false)] [] rfl rfl ?_ ?_
    · conv => cbv
      cases h
      exact ⟨.same _, trivial⟩
    · conv => cbv
      cases h
      exact .cons _ _ _ _ (.same _) .nil
  conv => cbv
  refine den_cut (r := r) (fun j1 : Unit => ⟨[(0, .osl 10000)], [(10000, .arr false 45 8 e_chain_Cand y0)], []⟩) (slices_Compact_schain_Cand_chain_Cand_K1 y0) ?_ (fun j1 h => ?_)
  · conv => cbv
    refine den_loop (slices_Compact_schain_Cand_chain_Cand_L1 y0) h (fun a2 : Int => ⟨[(0, .osl 10000), (3, .int .i64 (.v a2))], [(10000, .arr false 45 8 e_chain_Cand y0)], []⟩) ?_ (fun _ _ a2 x1 h hb1 hx1 => ?_)
    · intro j0 hj
      conv => cbv
      subst hj
      exact ⟨⟨.same _, trivial⟩, .same _, .int _ _ _ rfl, trivial⟩
    unfold slices_Compact_schain_Cand_chain_Cand_L1 at h
    conv => cbv
    refine den_br h (fun _ h => ?_) (fun _ h => ?_)
    · conv => cbv
      refine den_cut (r := x1) (fun j3 : Unit => ⟨[(0, .osl 10000), (3, .int .i64 (.v a2))], [(10000, .arr false 45 8 e_chain_Cand y0)], []⟩) (slices_Compact_schain_Cand_chain_Cand_K2 a2) ?_ (fun j3 h => ?_)
      · conv => cbv
        refine .dup ?_
        conv => cbv
        refine .mk (some []) (by kernel_rfl) ?_
        conv => cbv
        refine den_chk h fun h => ?_
        conv => cbv
        refine den_chk h fun h => ?_
        conv => cbv
        refine den_eload h fun p4 _ h => ?_
        conv => cbv
        refine .mk ?_
        conv => cbv
        refine den_chk h fun h => ?_
        conv => cbv
        refine den_chk h fun h => ?_
        conv => cbv
        refine den_eload h fun p5 _ h => ?_
        conv => cbv
        refine den_br h (fun _ h => ?_) (fun _ h => ?_)
        · conv => cbv
          refine den_subo_w h fun v7 _ h => ?_
          conv => cbv
          refine den_cut (r := x1) (fun j8 : Int × (List chain_Cand) => ⟨[(0, .osl 10000), (3, .int .i64 (.v j8.1))], [(10000, .arr false 45 8 e_chain_Cand j8.2)], []⟩) slices_Compact_schain_Cand_chain_Cand_K3 ?_ (fun j8 h => ?_)
          · conv => cbv
            refine den_loop (slices_Compact_schain_Cand_chain_Cand_L2 v7) h (fun a13 : Int × Int × (List chain_Cand) => ⟨[(0, .osl 10000), (3, .int .i64 (.v a13.1)), (4, .view 10000 (.v v7.2.1) (.v v7.2.2)), (5, .int .i64 (.v a13.2.1))], [(10000, .arr false 45 8 e_chain_Cand a13.2.2)], []⟩) ?_ (fun _ _ a13 x2 h hb2 hx2 => ?_)
            · intro j0 hj
              conv => cbv
              subst hj
              exact ⟨⟨.arr _ _ _ _ _ _ rfl, trivial⟩, .same _, .int _ _ _ rfl, .same _, .int _ _ _ rfl, trivial⟩
            unfold slices_Compact_schain_Cand_chain_Cand_L2 at h
            conv => cbv
            refine den_br h (fun _ h => ?_) (fun _ h => ?_)
            · conv => cbv
              refine den_cut (r := x2) (fun j14 : Int × (List chain_Cand) => ⟨[(0, .osl 10000), (3, .int .i64 (.v j14.1)), (4, .view 10000 (.v v7.2.1) (.v v7.2.2)), (5, .int .i64 (.v a13.2.1))], [(10000, .arr false 45 8 e_chain_Cand j14.2)], []⟩) (slices_Compact_schain_Cand_chain_Cand_K4 a13) ?_ (fun j14 h => ?_)
              · conv => cbv
                refine .dup ?_
                conv => cbv
                refine .mk (some []) (by kernel_rfl) ?_
                conv => cbv
                refine den_chk h fun h => ?_
                conv => cbv
                refine den_chk h fun h => ?_
                conv => cbv
                refine den_eload h fun p15 _ h => ?_
                conv => cbv
                refine .mk ?_
                conv => cbv
                refine den_chk h fun h => ?_
                conv => cbv
                refine den_chk h fun h => ?_
                conv => cbv
                refine den_eload h fun p16 _ h => ?_
                conv => cbv
                refine den_br h (fun _ h => ?_) (fun _ h => ?_)
                · conv => cbv
                  refine .mk ?_
                  conv => cbv
                  refine den_chk h fun h => ?_
                  conv => cbv
                  refine den_chk h fun h => ?_
                  conv => cbv
                  refine den_eload h fun p17 _ h => ?_
                  conv => cbv
                  refine den_chk h fun h => ?_
                  conv => cbv
                  refine den_chk h fun h => ?_
                  conv => cbv
                  refine den_estore (f := e_chain_Cand) p17 h (fun _ => CEqL.of_lepl (.cons _ _ _ _ (.same _) (.cons _ _ _ _ (.same _) (.cons _ _ _ _ (.same _) (.cons _ _ _ _ (.same _) (.cons _ _ _ _ (.same _) (.cons _ _ _ _ (.same _) (.cons _ _ _ _ (.same _) (.cons _ _ _ _ (.same _) .nil)))))))) rfl) fun l18 _ h => ?_
                  conv => cbv
                  refine den_join h fun j0 hj => ?_
                  conv => cbv
                  subst hj
                  exact ⟨⟨.arr _ _ _ _ _ _ rfl, trivial⟩, .same _, .int _ _ _ rfl, .same _, .same _, trivial⟩
                conv => cbv
                refine den_join h fun j0 hj => ?_
                conv => cbv
                subst hj
                exact ⟨⟨.arr _ _ _ _ _ _ rfl, trivial⟩, .same _, .int _ _ _ rfl, .same _, .same _, trivial⟩
              unfold slices_Compact_schain_Cand_chain_Cand_K4 at h
              conv => cbv
              refine den_back h hb2 fun j0 hj => ?_
              conv => cbv
              subst hj
              exact ⟨⟨.arr _ _ _ _ _ _ rfl, trivial⟩, .same _, .int _ _ _ rfl, .same _, .int _ _ _ rfl, trivial⟩
            conv => cbv
            replace h := den_out h hx2
            refine den_join h fun j0 hj => ?_
            conv => cbv
            subst hj
            exact ⟨⟨.arr _ _ _ _ _ _ rfl, trivial⟩, .same _, .int _ _ _ rfl, trivial⟩
          unfold slices_Compact_schain_Cand_chain_Cand_K3 at h
          conv => cbv
          refine den_subo_v h fun l9 il9 ml9 hil9 hml9 _ h => ?_
          conv => cbv
          subst hil9
          subst hml9
          refine den_clear e_chain_Cand j8.1 ((j8.2.length : Int) - j8.1) (⟨(⟨(0 : Int), (0 : Int), (0 : Int)⟩ : api_Params), (0 : Int), (0 : Int), (0 : Int), (0 : Int), false⟩ : chain_Cand) h rfl (.inr ⟨_, _, rfl, rfl, rfl⟩) (CEqL.of_lepl (.cons _ _ _ _ (.int _ _ _ rfl) (.cons _ _ _ _ (.int _ _ _ rfl) (.cons _ _ _ _ (.int _ _ _ rfl) (.cons _ _ _ _ (.int _ _ _ rfl) (.cons _ _ _ _ (.int _ _ _ rfl) (.cons _ _ _ _ (.int _ _ _ rfl) (.cons _ _ _ _ (.int _ _ _ rfl) (.cons _ _ _ _ (.bool _ _ rfl) .nil)))))))) rfl) (fun h => ?_) (fun l10 _ h => ?_)
          · conv => cbv
            refine den_subo_t h rfl fun l11 _ h => ?_
            conv => cbv
            replace h := den_out h hx1
            refine .mk [(10000, 10000, false)] [] rfl rfl ?_ ?_
            · conv => cbv
              cases h
              exact ⟨.same _, trivial⟩
            · conv => cbv
              cases h
              exact .cons _ _ _ _ (.same _) .nil
          · conv => cbv
            refine den_subo_t h rfl fun l12 _ h => ?_
            conv => cbv
            replace h := den_out h hx1
            refine .mk [(10000, 10000, false)] [] rfl rfl ?_ ?_
            · conv => cbv
              cases h
              exact ⟨.same _, trivial⟩
            · conv => cbv
              cases h
              exact .cons _ _ _ _ (.same _) .nil
        conv => cbv
        refine den_join h fun j0 hj => ?_
        conv => cbv
        subst hj
        exact ⟨⟨.same _, trivial⟩, .same _, .same _, trivial⟩
      unfold slices_Compact_schain_Cand_chain_Cand_K2 at h
      conv => cbv
      refine den_back h hb1 fun j0 hj => ?_
      conv => cbv
      subst hj
      exact ⟨⟨.same _, trivial⟩, .same _, .int _ _ _ rfl, trivial⟩
    conv => cbv
    replace h := den_out h hx1
    refine den_join h fun j0 hj => ?_
    conv => cbv
    subst hj
    exact ⟨⟨.same _, trivial⟩, .same _, trivial⟩
  unfold slices_Compact_schain_Cand_chain_Cand_K1 at h
  conv => cbv
  refine .mk [(10000, 10000, false)] [] rfl rfl ?_ ?_
  · conv => cbv
    cases h
    exact ⟨.same _, trivial⟩
  · conv => cbv
    cases h
    exact .cons _ _ _ _ (.same _) .nil
def T_chain_sorted : Tab := [(45, ⟨.struct [(0, 23), (3, 3), (4, 3), (5, 3), (6, 3), (7, 4)], 8, 64, [.int .i64 (.lit 0), .int .i64 (.lit 0), .int .i64 (.lit 0), .int .i64 (.lit 0), .int .i64 (.lit 0), .int .i64 (.lit 0), .int .i64 (.lit 0), .bool (.lit false)]⟩)]
theorem T_chain_sorted_ok : TabOk Try.prog T_chain_sorted := by
  have h : T_chain_sorted = tabOf Try.prog [45] := by kernel_rfl
  rw [h]; exact tabOk_of (by kernel_rfl)
theorem v_chain_sorted {y0 : List chain_Cand} {r : List chain_Cand} (h : chain_sorted y0 = some r) : AVal Try.prog [] 21 [(e_sl 8 e_chain_Cand) y0] ((e_sl 8 e_chain_Cand) r) := by
  refine aval_of (c := ⟨T_chain_sorted, [], 10, [], []⟩) Try.func21 (by kernel_rfl) rfl rfl rfl T_chain_sorted_ok (eqsOk_of (by kernel_rfl)) Try_mixed rfl fun P hP _ => ?_
  unfold chain_sorted at h
  conv => cbv
  refine den_own [(4, 20000, true)] [] (fun _ => .osl 20000) [] (fun r => [(20000, .arr false 45 8 e_chain_Cand r)]) [(e_sl 8 e_chain_Cand) y0] h (fun _ h => hP ▸ w_slices_Clone_schain_Cand_chain_Cand h) (fun _ => rfl) (.cons _ _ _ _ (.same _) .nil) rfl True.intro fun r1 _ h => ?_
  conv => cbv
  refine den_own [(4, 10000, true)] [] (fun r : (List chain_Cand) => .osl 10000) [(10000, .arr false 45 8 e_chain_Cand r1)] (fun r : (List chain_Cand) => [(10000, .arr false 45 8 e_chain_Cand r)]) [.osl 10000, .fn 39 [] []] h (fun _ h => hP ▸ x_slices_DeleteFunc_schain_Cand_chain_Cand h) (fun _ => rfl) (by (conv => cbv); exact .cons _ _ _ _ (.same _) (.cons _ _ _ _ (.same _) .nil)) rfl (by (conv => cbv); exact ⟨.same _, trivial⟩) fun r2 _ h => ?_
  conv => cbv
  refine den_own [(4, 10000, false)] [] (fun r => .tup []) [(10000, .arr true 45 8 e_chain_Cand r2)] (fun r => [(10000, .arr true 45 8 e_chain_Cand r)]) [.osl 10000, .fn 41 [] []] h (fun _ h => hP ▸ s_chain_Compare h) (fun _ => rfl) (.cons _ _ _ _ (.same _) (.cons _ _ _ _ (.same _) .nil)) rfl (by (conv => cbv); exact ⟨.pin _ _ _ _ _ rfl, trivial⟩) fun r3 _ h => ?_
  conv => cbv
  refine den_own [(4, 10000, true)] [] (fun _ => .osl 10000) [(10000, .arr false 45 8 e_chain_Cand r3)] (fun r => [(10000, .arr false 45 8 e_chain_Cand r)]) [.osl 10000] h (fun _ h => hP ▸ w_slices_Compact_schain_Cand_chain_Cand h) (fun _ => rfl) (.cons _ _ _ _ (.same _) .nil) rfl (by (conv => cbv); exact ⟨.unpin _ _ _ _ _ rfl, trivial⟩) fun r4 _ h => ?_
  conv => cbv
  cases h
  exact .same _
def T_chain_guess : Tab := [(3, ⟨.int .i64, 1, 8, [.int .i64 (.lit 0)]⟩), (4, ⟨.bool, 1, 1, [.bool (.lit false)]⟩), (23, ⟨.struct [(0, 3), (1, 3), (2, 3)], 3, 24, [.int .i64 (.lit 0), .int .i64 (.lit 0), .int .i64 (.lit 0)]⟩), (25, ⟨.struct [(0, 23), (3, 4), (4, 3)], 5, 40, [.int .i64 (.lit 0), .int .i64 (.lit 0), .int .i64 (.lit 0), .bool (.lit false), .int .i64 (.lit 0)]⟩), (45, ⟨.struct [(0, 23), (3, 3), (4, 3), (5, 3), (6, 3), (7, 4)], 8, 64, [.int .i64 (.lit 0), .int .i64 (.lit 0), .int .i64 (.lit 0), .int .i64 (.lit 0), .int .i64 (.lit 0), .int .i64 (.lit 0), .int .i64 (.lit 0), .bool (.lit false)]⟩)]
theorem T_chain_guess_ok : TabOk Try.prog T_chain_guess := by
  have h : T_chain_guess = tabOf Try.prog [3, 4, 23, 25, 45] := by kernel_rfl
  rw [h]; exact tabOk_of (by kernel_rfl)
theorem v_chain_guess {y0 : chain_Cand} {r : chain_Guess} (h : chain_guess y0 = some r) : AVal Try.prog [] 45 [e_chain_Cand y0] (e_chain_Guess r) := by
  refine aval_of (c := ⟨T_chain_guess, [], 15, [], []⟩) Try.func45 (by kernel_rfl) rfl rfl rfl T_chain_guess_ok (eqsOk_of (by kernel_rfl)) Try_mixed rfl fun P hP _ => ?_
  unfold chain_guess at h
  conv => cbv
  refine .own ?_
  conv => cbv
  refine .mk ?_
  conv => cbv
  refine den_cut (r := r) (fun j1 : Int => ⟨[(2, .ptr 2 0), (3, .ptr 3 0)], [(2, .var [.int .i64 (.lit 0), .int .i64 (.lit 0), .int .i64 (.lit 0), .bool (.lit false), .int .i64 (.lit 0)]), (3, .var [.int .i64 (.v y0.Params.Rate), .int .i64 (.v y0.Params.Channels), .int .i64 (.v y0.Params.Depth), .bool (.v y0.Variable), .int .i64 (.v j1)])], []⟩) (chain_guess_K1 y0) ?_ (fun j1 h => ?_)
  · conv => cbv
    refine den_br h (fun _ h => ?_) (fun _ h => ?_)
    · conv => cbv
      refine den_join h fun j0 hj => ?_
      conv => cbv
      subst hj
      exact ⟨⟨.same _, .var _ _ (.cons _ _ _ _ (.same _) (.cons _ _ _ _ (.same _) (.cons _ _ _ _ (.same _) (.cons _ _ _ _ (.same _) (.cons _ _ _ _ (.int _ _ _ rfl) .nil))))), trivial⟩, .same _, .same _, trivial⟩
    conv => cbv
    refine den_join h fun j0 hj => ?_
    conv => cbv
    subst hj
    exact ⟨⟨.same _, .var _ _ (.cons _ _ _ _ (.same _) (.cons _ _ _ _ (.same _) (.cons _ _ _ _ (.same _) (.cons _ _ _ _ (.same _) (.cons _ _ _ _ (.int _ _ _ rfl) .nil))))), trivial⟩, .same _, .same _, trivial⟩
  unfold chain_guess_K1 at h
  conv => cbv
  cases h
  exact .same _
def T_chain_compare : Tab := [(3, ⟨.int .i64, 1, 8, [.int .i64 (.lit 0)]⟩), (4, ⟨.bool, 1, 1, [.bool (.lit false)]⟩), (23, ⟨.struct [(0, 3), (1, 3), (2, 3)], 3, 24, [.int .i64 (.lit 0), .int .i64 (.lit 0), .int .i64 (.lit 0)]⟩), (25, ⟨.struct [(0, 23), (3, 4), (4, 3)], 5, 40, [.int .i64 (.lit 0), .int .i64 (.lit 0), .int .i64 (.lit 0), .bool (.lit false), .int .i64 (.lit 0)]⟩), (99, ⟨.slice 3, 1, 24, [.nilsl]⟩)]
theorem T_chain_compare_ok : TabOk Try.prog T_chain_compare := by
  have h : T_chain_compare = tabOf Try.prog [3, 4, 23, 25, 99] := by kernel_rfl
  rw [h]; exact tabOk_of (by kernel_rfl)
theorem v_chain_compare {y0 : chain_Guess} {y1 : chain_Guess} {r : Int} (h : chain_compare y0 y1 = some r) : AVal Try.prog [] 47 [e_chain_Guess y0, e_chain_Guess y1] (e_i64 r) := by
  refine aval_of (c := ⟨T_chain_compare, [], 24, [], []⟩) Try.func47 (by kernel_rfl) rfl rfl rfl T_chain_compare_ok (eqsOk_of (by kernel_rfl)) Try_mixed rfl fun P hP _ => ?_
  unfold chain_compare at h
  conv => cbv
  refine .own ?_
  conv => cbv
  refine .own ?_
  conv => cbv
  refine .dup ?_
  conv => cbv
  refine .mk (some []) (by kernel_rfl) ?_
  conv => cbv
  refine .mk ?_
  conv => cbv
  refine .mk ?_
  conv => cbv
  refine den_call e_i64 [e_bool y0.Variable] h (fun _ h => hP ▸ v_chain_flag h) (.cons _ _ _ _ (.same _) .nil) rfl rfl (fun _ => rfl) fun r1 _ h => ?_
  conv => cbv
  refine den_call e_i64 [e_bool y1.Variable] h (fun _ h => hP ▸ v_chain_flag h) (.cons _ _ _ _ (.same _) .nil) rfl rfl (fun _ => rfl) fun r2 _ h => ?_
  conv => cbv
  refine den_call e_i64 [e_i64 r1, e_i64 r2] h (fun _ h => hP ▸ v_cmp_Compare_int h) (.cons _ _ _ _ (.same _) (.cons _ _ _ _ (.same _) .nil)) rfl rfl (fun _ => rfl) fun r3 _ h => ?_
  conv => cbv
  refine den_call e_i64 [e_api_Params y0.Params, e_api_Params y1.Params] h (fun _ h => hP ▸ v_chain_params h) (.cons _ _ _ _ (.same _) (.cons _ _ _ _ (.same _) .nil)) rfl rfl (fun _ => rfl) fun r4 _ h => ?_
  conv => cbv
  refine den_call e_i64 [e_i64 y0.Block, e_i64 y1.Block] h (fun _ h => hP ▸ v_cmp_Compare_int h) (.cons _ _ _ _ (.same _) (.cons _ _ _ _ (.same _) .nil)) rfl rfl (fun _ => rfl) fun r5 _ h => ?_
  conv => cbv
  refine .mk ?_
  conv => cbv
  refine .data ?_
  conv => cbv
  refine den_call e_i64 [(e_sl 1 e_i64) [r3, r4, r5]] h (fun _ h => hP ▸ v_cmp_Or_int h) (.cons _ _ _ _ (.sls (.cons _ _ _ _ (VEq.of_lepl (.cons _ _ _ _ (.same _) .nil) rfl) (.cons _ _ _ _ (VEq.of_lepl (.cons _ _ _ _ (.same _) .nil) rfl) (.cons _ _ _ _ (VEq.of_lepl (.cons _ _ _ _ (.same _) .nil) rfl) .nil)))) .nil) rfl rfl (fun _ => rfl) fun r6 _ h => ?_
  conv => cbv
  cases h
  exact .same _
section
open Go.Shelf Go.RowKit Go.Lib Go.Sort
instance : Inhabited chain_Guess := ⟨⟨⟨0, 0, 0⟩, false, 0⟩⟩
def cells_chain_Guess (x : chain_Guess) : List Value := [.int .i64 (IntKind.i64.wrap x.Params.Rate), .int .i64 (IntKind.i64.wrap x.Params.Channels), .int .i64 (IntKind.i64.wrap x.Params.Depth), .bool x.Variable, .int .i64 (IntKind.i64.wrap x.Block)]
def norm_chain_Guess (x : chain_Guess) : chain_Guess := ⟨⟨IntKind.i64.wrap x.Params.Rate, IntKind.i64.wrap x.Params.Channels, IntKind.i64.wrap x.Params.Depth⟩, x.Variable, IntKind.i64.wrap x.Block⟩
theorem isAgg_chain_Guess (w : World) : (isAgg 25).run Try.prog w = .ok true w := Try.isAgg25 w
theorem sizeOf_chain_Guess (w : World) : (Go.sizeOf 25).run Try.prog w = .ok 5 w := Try.sizeOf25 w
theorem s_chain_compare {l r : List chain_Guess} (h : sortG l chain_compare = some r) : ACalls Try.prog [] 46 [.osl 10000, .fn 47 [] []] [(10000, .arr true 25 5 e_chain_Guess l)] (fun x o' => x = .tup [] ∧ o' = [(10000, .arr true 25 5 e_chain_Guess r)]) := by
  have h1 : ∀ x, ∀ v ∈ cells_chain_Guess x, v.oneCell' = true := fun x v hv => by
    simp only [cells_chain_Guess, List.mem_cons, List.not_mem_nil, or_false] at hv
    rcases hv with rfl | rfl | rfl | rfl | rfl <;> rfl
  refine acalls_sort (P := Try.prog) (fs := 46) (g := 47) 5 cells_chain_Guess e_chain_Guess norm_chain_Guess chain_compare ⟨_, Try.func46, rfl, rfl⟩ (fun _ => rfl) h1 (by decide) (fun _ => rfl) (fun _ => rfl) (fun x w Fr => ?_) (fun x w Fr cs hc => ?_)
    (fun x y => ⟨_, gcompare_eq x y⟩) (fun x y i hi => v_chain_compare hi) (swo_key gkey 5 (fun _ => rfl) gcompare_lt) (tot_key gkey 5 (fun _ => rfl) gcompare_lt gkey_inj)
    (fun cf hO blk cap d w eg hcmp hH hb hsz => AnyQ.slices_SortFunc Try.sortG 5 isAgg_chain_Guess sizeOf_chain_Guess cells_chain_Guess (fun _ => rfl) h1 cf hO 47 #[] blk 0 cap d w eg hcmp hH hb hsz)
    (fun p cap fv w => AnyF.slices_SortFunc_none Try.sortG p cap fv w) l r h
  · refine .agg _ _ rfl (fun c hc => h1 x c (by simpa using hc)) fun i c y hi hy => ?_
    match i with
    | 0 => cases hi; cases hy; exact .int _ _ _ rfl (wrap_has _ _)
    | 1 => cases hi; cases hy; exact .int _ _ _ rfl (wrap_has _ _)
    | 2 => cases hi; cases hy; exact .int _ _ _ rfl (wrap_has _ _)
    | 3 => cases hi; cases hy; exact .bool _ _ rfl
    | 4 => cases hi; cases hy; exact .int _ _ _ rfl (wrap_has _ _)
    | i + 5 => simp [cells_chain_Guess] at hi
  · obtain ⟨e0, k0⟩ := RA.of_int (e := .v x.Params.Rate) (RA.d (β := fun _ => none) (o := []) _ _ (hc 0 _ rfl))
    obtain ⟨e1, k1⟩ := RA.of_int (e := .v x.Params.Channels) (RA.d (β := fun _ => none) (o := []) _ _ (hc 1 _ rfl))
    obtain ⟨e2, k2⟩ := RA.of_int (e := .v x.Params.Depth) (RA.d (β := fun _ => none) (o := []) _ _ (hc 2 _ rfl))
    have e3 := RA.of_bool (e := .v x.Variable) (RA.d (β := fun _ => none) (o := []) _ _ (hc 3 _ rfl))
    obtain ⟨e4, k4⟩ := RA.of_int (e := .v x.Block) (RA.d (β := fun _ => none) (o := []) _ _ (hc 4 _ rfl))
    simp only [IE.den, BE.den] at e0 e1 e2 e3 e4 k0 k1 k2 k4
    refine ⟨by simp only [norm_chain_Guess, wrap_id k0, wrap_id k1, wrap_id k2, wrap_id k4], fun j hj => ?_⟩
    match j, hj with
    | 0, _ => simp [cells_chain_Guess, wrap_id k0, e0]
    | 1, _ => simp [cells_chain_Guess, wrap_id k1, e1]
    | 2, _ => simp [cells_chain_Guess, wrap_id k2, e2]
    | 3, _ => simp [cells_chain_Guess, e3]
    | 4, _ => simp [cells_chain_Guess, wrap_id k4, e4]
end
def Tw_slices_Compact_schain_Guess_chain_Guess : Tab := [(25, ⟨.struct [(0, 23), (3, 4), (4, 3)], 5, 40, [.int .i64 (.lit 0), .int .i64 (.lit 0), .int .i64 (.lit 0), .bool (.lit false), .int .i64 (.lit 0)]⟩), (66, ⟨.slice 25, 1, 24, [.nilsl]⟩)]
theorem Tw_slices_Compact_schain_Guess_chain_Guess_ok : TabOk Try.prog Tw_slices_Compact_schain_Guess_chain_Guess := by
  have h : Tw_slices_Compact_schain_Guess_chain_Guess = tabOf Try.prog [25, 66] := by kernel_rfl
  rw [h]; exact tabOk_of (by kernel_rfl)
theorem w_slices_Compact_schain_Guess_chain_Guess {y0 : List chain_Guess} {r : List chain_Guess} (h : slices_Compact_schain_Guess_chain_Guess y0 = some r) : ACalls Try.prog [] 48 [.osl 10000] [(10000, .arr false 25 5 e_chain_Guess y0)] (fun x o' => x = .osl 10000 ∧ o' = [(10000, .arr false 25 5 e_chain_Guess r)]) := by
  refine acalls_of (c := ⟨Tw_slices_Compact_schain_Guess_chain_Guess, [], 61, [], [(25, [.i, .i, .i, .b, .i])]⟩) Try.func48 (by kernel_rfl) rfl rfl rfl Tw_slices_Compact_schain_Guess_chain_Guess_ok (eqsOk_of (by kernel_rfl)) Try_mixed rfl rfl rfl fun P hP _ => ?_
  unfold slices_Compact_schain_Guess_chain_Guess at h
  conv => cbv
  refine den_br h (fun _ h => ?_) (fun _ h => ?_)
  · conv => cbv
    refine .mk [(10000, 10000, false)] [] rfl rfl ?_ ?_
    · conv => cbv
      cases h
      exact ⟨.same _, trivial⟩
    · conv => cbv
      cases h
      exact .cons _ _ _ _ (.same _) .nil
  conv => cbv
  refine den_cut (r := r) (fun j1 : Unit => ⟨[(0, .osl 10000)], [(10000, .arr false 25 5 e_chain_Guess y0)], []⟩) (slices_Compact_schain_Guess_chain_Guess_K1 y0) ?_ (fun j1 h => ?_)
  · conv => cbv
    refine den_loop (slices_Compact_schain_Guess_chain_Guess_L1 y0) h (fun a2 : Int => ⟨[(0, .osl 10000), (3, .int .i64 (.v a2))], [(10000, .arr false 25 5 e_chain_Guess y0)], []⟩) ?_ (fun _ _ a2 x1 h hb1 hx1 => ?_)
    · intro j0 hj
      conv => cbv
      subst hj
      exact ⟨⟨.same _, trivial⟩, .same _, .int _ _ _ rfl, trivial⟩
    unfold slices_Compact_schain_Guess_chain_Guess_L1 at h
    conv => cbv
    refine den_br h (fun _ h => ?_) (fun _ h => ?_)
    · conv => cbv
      refine den_cut (r := x1) (fun j3 : Unit => ⟨[(0, .osl 10000), (3, .int .i64 (.v a2))], [(10000, .arr false 25 5 e_chain_Guess y0)], []⟩) (slices_Compact_schain_Guess_chain_Guess_K2 a2) ?_ (fun j3 h => ?_)
      · conv => cbv
        refine .dup ?_
        conv => cbv
        refine .mk (some []) (by kernel_rfl) ?_
        conv => cbv
        refine den_chk h fun h => ?_
        conv => cbv
        refine den_chk h fun h => ?_
        conv => cbv
        refine den_eload h fun p4 _ h => ?_
        conv => cbv
        refine .mk ?_
        conv => cbv
        refine den_chk h fun h => ?_
        conv => cbv
        refine den_chk h fun h => ?_
        conv => cbv
        refine den_eload h fun p5 _ h => ?_
        conv => cbv
        refine den_br h (fun _ h => ?_) (fun _ h => ?_)
        · conv => cbv
          refine den_subo_w h fun v7 _ h => ?_
          conv => cbv
          refine den_cut (r := x1) (fun j8 : Int × (List chain_Guess) => ⟨[(0, .osl 10000), (3, .int .i64 (.v j8.1))], [(10000, .arr false 25 5 e_chain_Guess j8.2)], []⟩) slices_Compact_schain_Guess_chain_Guess_K3 ?_ (fun j8 h => ?_)
          · conv => cbv
            refine den_loop (slices_Compact_schain_Guess_chain_Guess_L2 v7) h (fun a13 : Int × Int × (List chain_Guess) => ⟨[(0, .osl 10000), (3, .int .i64 (.v a13.1)), (4, .view 10000 (.v v7.2.1) (.v v7.2.2)), (5, .int .i64 (.v a13.2.1))], [(10000, .arr false 25 5 e_chain_Guess a13.2.2)], []⟩) ?_ (fun _ _ a13 x2 h hb2 hx2 => ?_)
            · intro j0 hj
              conv => cbv
              subst hj
              exact ⟨⟨.arr _ _ _ _ _ _ rfl, trivial⟩, .same _, .int _ _ _ rfl, .same _, .int _ _ _ rfl, trivial⟩
            unfold slices_Compact_schain_Guess_chain_Guess_L2 at h
            conv => cbv
            refine den_br h (fun _ h => ?_) (fun _ h => ?_)
            · conv => cbv
              refine den_cut (r := x2) (fun j14 : Int × (List chain_Guess) => ⟨[(0, .osl 10000), (3, .int .i64 (.v j14.1)), (4, .view 10000 (.v v7.2.1) (.v v7.2.2)), (5, .int .i64 (.v a13.2.1))], [(10000, .arr false 25 5 e_chain_Guess j14.2)], []⟩) (slices_Compact_schain_Guess_chain_Guess_K4 a13) ?_ (fun j14 h => ?_)
              · conv => cbv
                refine .dup ?_
                conv => cbv
                refine .mk (some []) (by kernel_rfl) ?_
                conv => cbv
                refine den_chk h fun h => ?_
                conv => cbv
                refine den_chk h fun h => ?_
                conv => cbv
                refine den_eload h fun p15 _ h => ?_
                conv => cbv
                refine .mk ?_
                conv => cbv
                refine den_chk h fun h => ?_
                conv => cbv
                refine den_chk h fun h => ?_
                conv => cbv
                refine den_eload h fun p16 _ h => ?_
                conv => cbv
                refine den_br h (fun _ h => ?_) (fun _ h => ?_)
                · conv => cbv
                  refine .mk ?_
                  conv => cbv
                  refine den_chk h fun h => ?_
                  conv => cbv
                  refine den_chk h fun h => ?_
                  conv => cbv
                  refine den_eload h fun p17 _ h => ?_
                  conv => cbv
                  refine den_chk h fun h => ?_
                  conv => cbv
                  refine den_chk h fun h => ?_
                  conv => cbv
                  refine den_estore (f := e_chain_Guess) p17 h (fun _ => CEqL.of_lepl (.cons _ _ _ _ (.same _) (.cons _ _ _ _ (.same _) (.cons _ _ _ _ (.same _) (.cons _ _ _ _ (.same _) (.cons _ _ _ _ (.same _) .nil))))) rfl) fun l18 _ h => ?_
                  conv => cbv
                  refine den_join h fun j0 hj => ?_
                  conv => cbv
                  subst hj
                  exact ⟨⟨.arr _ _ _ _ _ _ rfl, trivial⟩, .same _, .int _ _ _ rfl, .same _, .same _, trivial⟩
                conv => cbv
                refine den_join h fun j0 hj => ?_
                conv => cbv
                subst hj
                exact ⟨⟨.arr _ _ _ _ _ _ rfl, trivial⟩, .same _, .int _ _ _ rfl, .same _, .same _, trivial⟩
              unfold slices_Compact_schain_Guess_chain_Guess_K4 at h
              conv => cbv
              refine den_back h hb2 fun j0 hj => ?_
              conv => cbv
              subst hj
              exact ⟨⟨.arr _ _ _ _ _ _ rfl, trivial⟩, .same _, .int _ _ _ rfl, .same _, .int _ _ _ rfl, trivial⟩
            conv => cbv
            replace h := den_out h hx2
            refine den_join h fun j0 hj => ?_
            conv => cbv
            subst hj
            exact ⟨⟨.arr _ _ _ _ _ _ rfl, trivial⟩, .same _, .int _ _ _ rfl, trivial⟩
          unfold slices_Compact_schain_Guess_chain_Guess_K3 at h
          conv => cbv
          refine den_subo_v h fun l9 il9 ml9 hil9 hml9 _ h => ?_
          conv => cbv
          subst hil9
          subst hml9
          refine den_clear e_chain_Guess j8.1 ((j8.2.length : Int) - j8.1) (⟨(⟨(0 : Int), (0 : Int), (0 : Int)⟩ : api_Params), false, (0 : Int)⟩ : chain_Guess) h rfl (.inr ⟨_, _, rfl, rfl, rfl⟩) (CEqL.of_lepl (.cons _ _ _ _ (.int _ _ _ rfl) (.cons _ _ _ _ (.int _ _ _ rfl) (.cons _ _ _ _ (.int _ _ _ rfl) (.cons _ _ _ _ (.bool _ _ rfl) (.cons _ _ _ _ (.int _ _ _ rfl) .nil))))) rfl) (fun h => ?_) (fun l10 _ h => ?_)
          · conv => cbv
            refine den_subo_t h rfl fun l11 _ h => ?_
            conv => cbv
            replace h := den_out h hx1
            refine .mk [(10000, 10000, false)] [] rfl rfl ?_ ?_
            · conv => cbv
              cases h
              exact ⟨.same _, trivial⟩
            · conv => cbv
              cases h
              exact .cons _ _ _ _ (.same _) .nil
          · conv => cbv
            refine den_subo_t h rfl fun l12 _ h => ?_
            conv => cbv
            replace h := den_out h hx1
            refine .mk [(10000, 10000, false)] [] rfl rfl ?_ ?_
            · conv => cbv
              cases h
              exact ⟨.same _, trivial⟩
            · conv => cbv
              cases h
              exact .cons _ _ _ _ (.same _) .nil
        conv => cbv
        refine den_join h fun j0 hj => ?_
        conv => cbv
        subst hj
        exact ⟨⟨.same _, trivial⟩, .same _, .same _, trivial⟩
      unfold slices_Compact_schain_Guess_chain_Guess_K2 at h
      conv => cbv
      refine den_back h hb1 fun j0 hj => ?_
      conv => cbv
      subst hj
      exact ⟨⟨.same _, trivial⟩, .same _, .int _ _ _ rfl, trivial⟩
    conv => cbv
    replace h := den_out h hx1
    refine den_join h fun j0 hj => ?_
    conv => cbv
    subst hj
    exact ⟨⟨.same _, trivial⟩, .same _, trivial⟩
  unfold slices_Compact_schain_Guess_chain_Guess_K1 at h
  conv => cbv
  refine .mk [(10000, 10000, false)] [] rfl rfl ?_ ?_
  · conv => cbv
    cases h
    exact ⟨.same _, trivial⟩
  · conv => cbv
    cases h
    exact .cons _ _ _ _ (.same _) .nil
def T_chain_Guesses : Tab := [(25, ⟨.struct [(0, 23), (3, 4), (4, 3)], 5, 40, [.int .i64 (.lit 0), .int .i64 (.lit 0), .int .i64 (.lit 0), .bool (.lit false), .int .i64 (.lit 0)]⟩), (26, ⟨.slice 45, 1, 24, [.nilsl]⟩), (45, ⟨.struct [(0, 23), (3, 3), (4, 3), (5, 3), (6, 3), (7, 4)], 8, 64, [.int .i64 (.lit 0), .int .i64 (.lit 0), .int .i64 (.lit 0), .int .i64 (.lit 0), .int .i64 (.lit 0), .int .i64 (.lit 0), .int .i64 (.lit 0), .bool (.lit false)]⟩), (66, ⟨.slice 25, 1, 24, [.nilsl]⟩)]
theorem T_chain_Guesses_ok : TabOk Try.prog T_chain_Guesses := by
  have h : T_chain_Guesses = tabOf Try.prog [25, 26, 45, 66] := by kernel_rfl
  rw [h]; exact tabOk_of (by kernel_rfl)
theorem v_chain_Guesses {y0 : List chain_Cand} {r : List chain_Guess} (h : chain_Guesses y0 = some r) : AVal Try.prog [] 32 [(e_sl 8 e_chain_Cand) y0] ((e_sl 5 e_chain_Guess) r) := by
  refine aval_of (c := ⟨T_chain_Guesses, [], 23, [], []⟩) Try.func32 (by kernel_rfl) rfl rfl rfl T_chain_Guesses_ok (eqsOk_of (by kernel_rfl)) Try_mixed rfl fun P hP _ => ?_
  unfold chain_Guesses at h
  conv => cbv
  refine den_cut (r := r) (fun j1 : (List chain_Guess) => ⟨[(3, .osl 1003)], [(1003, .arr false 25 5 e_chain_Guess j1)], []⟩) chain_Guesses_K1 ?_ (fun j1 h => ?_)
  · conv => cbv
    refine den_call (e_sl 8 e_chain_Cand) [(e_sl 8 e_chain_Cand) y0] h (fun _ h => hP ▸ v_chain_sorted h) (.cons _ _ _ _ (.same _) .nil) rfl rfl (fun _ => rfl) fun r4 _ h => ?_
    conv => cbv
    refine den_loop (chain_Guesses_L1 r4) h (fun a5 : Int × (List chain_Guess) => ⟨[(3, .osl 1003), (7, .sl 8 e_chain_Cand r4), (8, .int .i64 (.len r4)), (9, .int .i64 (.v a5.1))], [(1003, .arr false 25 5 e_chain_Guess a5.2)], []⟩) ?_ (fun _ _ a5 x1 h hb1 hx1 => ?_)
    · intro j0 hj
      conv => cbv
      subst hj
      exact ⟨⟨.arr _ _ _ _ _ _ rfl, trivial⟩, .own _ _ _ _ _ _ rfl rfl, .same _, .same _, .int _ _ _ rfl, trivial⟩
    unfold chain_Guesses_L1 at h
    conv => cbv
    refine den_br h (fun _ h => ?_) (fun _ h => ?_)
    · conv => cbv
      refine den_elem h fun p6 _ h => ?_
      conv => cbv
      refine .mk ?_
      conv => cbv
      refine den_call e_chain_Guess [e_chain_Cand p6] h (fun _ h => hP ▸ v_chain_guess h) (.cons _ _ _ _ (.same _) .nil) rfl rfl (fun _ => rfl) fun r7 _ h => ?_
      conv => cbv
      refine .data ?_
      conv => cbv
      refine den_app_own e_chain_Guess (xs := [r7]) h rfl (News.sls (.cons _ _ _ _ (VEq.of_lepl (.cons _ _ _ _ (.same _) (.cons _ _ _ _ (.same _) (.cons _ _ _ _ (.same _) (.cons _ _ _ _ (.same _) (.cons _ _ _ _ (.same _) .nil))))) rfl) .nil)) fun l8 _ h => ?_
      conv => cbv
      refine den_back h hb1 fun j0 hj => ?_
      conv => cbv
      subst hj
      exact ⟨⟨.arr _ _ _ _ _ _ rfl, trivial⟩, .same _, .same _, .same _, .int _ _ _ rfl, trivial⟩
    conv => cbv
    replace h := den_out h hx1
    refine den_join h fun j0 hj => ?_
    conv => cbv
    subst hj
    exact ⟨⟨.arr _ _ _ _ _ _ rfl, trivial⟩, .same _, trivial⟩
  unfold chain_Guesses_K1 at h
  conv => cbv
  refine den_own [(1003, 10000, false)] [] (fun r => .tup []) [(10000, .arr true 25 5 e_chain_Guess j1)] (fun r => [(10000, .arr true 25 5 e_chain_Guess r)]) [.osl 10000, .fn 47 [] []] h (fun _ h => hP ▸ s_chain_compare h) (fun _ => rfl) (.cons _ _ _ _ (.same _) (.cons _ _ _ _ (.same _) .nil)) rfl (by (conv => cbv); exact ⟨.pin _ _ _ _ _ rfl, trivial⟩) fun r2 _ h => ?_
  conv => cbv
  refine den_own [(1003, 10000, true)] [] (fun _ => .osl 10000) [(10000, .arr false 25 5 e_chain_Guess r2)] (fun r => [(10000, .arr false 25 5 e_chain_Guess r)]) [.osl 10000] h (fun _ h => hP ▸ w_slices_Compact_schain_Guess_chain_Guess h) (fun _ => rfl) (.cons _ _ _ _ (.same _) .nil) rfl (by (conv => cbv); exact ⟨.unpin _ _ _ _ _ rfl, trivial⟩) fun r3 _ h => ?_
  conv => cbv
  cases h
  exact .same _
def Tw_chain_sorted_x2 : Tab := [(45, ⟨.struct [(0, 23), (3, 3), (4, 3), (5, 3), (6, 3), (7, 4)], 8, 64, [.int .i64 (.lit 0), .int .i64 (.lit 0), .int .i64 (.lit 0), .int .i64 (.lit 0), .int .i64 (.lit 0), .int .i64 (.lit 0), .int .i64 (.lit 0), .bool (.lit false)]⟩)]
theorem Tw_chain_sorted_x2_ok : TabOk Try.prog Tw_chain_sorted_x2 := by
  have h : Tw_chain_sorted_x2 = tabOf Try.prog [45] := by kernel_rfl
  rw [h]; exact tabOk_of (by kernel_rfl)
theorem w_chain_sorted_x2 {y0 : List chain_Cand} {r : List chain_Cand} (h : chain_sorted_x2 y0 = some r) : ACalls Try.prog [] 21 [(e_sl 8 e_chain_Cand) y0] [] (fun x o' => x = .osl 20000 ∧ o' = [(20000, .arr false 45 8 e_chain_Cand r)]) := by
  refine acalls_of (c := ⟨Tw_chain_sorted_x2, [], 10, [], []⟩) Try.func21 (by kernel_rfl) rfl rfl rfl Tw_chain_sorted_x2_ok (eqsOk_of (by kernel_rfl)) Try_mixed rfl rfl rfl fun P hP _ => ?_
  unfold chain_sorted_x2 at h
  conv => cbv
  refine den_own [(4, 20000, true)] [] (fun _ => .osl 20000) [] (fun r => [(20000, .arr false 45 8 e_chain_Cand r)]) [(e_sl 8 e_chain_Cand) y0] h (fun _ h => hP ▸ w_slices_Clone_schain_Cand_chain_Cand h) (fun _ => rfl) (.cons _ _ _ _ (.same _) .nil) rfl True.intro fun r1 _ h => ?_
  conv => cbv
  refine den_own [(4, 10000, true)] [] (fun r : (List chain_Cand) => .osl 10000) [(10000, .arr false 45 8 e_chain_Cand r1)] (fun r : (List chain_Cand) => [(10000, .arr false 45 8 e_chain_Cand r)]) [.osl 10000, .fn 39 [] []] h (fun _ h => hP ▸ x_slices_DeleteFunc_schain_Cand_chain_Cand h) (fun _ => rfl) (by (conv => cbv); exact .cons _ _ _ _ (.same _) (.cons _ _ _ _ (.same _) .nil)) rfl (by (conv => cbv); exact ⟨.same _, trivial⟩) fun r2 _ h => ?_
  conv => cbv
  refine den_own [(4, 10000, false)] [] (fun r => .tup []) [(10000, .arr true 45 8 e_chain_Cand r2)] (fun r => [(10000, .arr true 45 8 e_chain_Cand r)]) [.osl 10000, .fn 41 [] []] h (fun _ h => hP ▸ s_chain_Compare h) (fun _ => rfl) (.cons _ _ _ _ (.same _) (.cons _ _ _ _ (.same _) .nil)) rfl (by (conv => cbv); exact ⟨.pin _ _ _ _ _ rfl, trivial⟩) fun r3 _ h => ?_
  conv => cbv
  refine den_own [(4, 10000, true)] [] (fun _ => .osl 10000) [(10000, .arr false 45 8 e_chain_Cand r3)] (fun r => [(10000, .arr false 45 8 e_chain_Cand r)]) [.osl 10000] h (fun _ h => hP ▸ w_slices_Compact_schain_Cand_chain_Cand h) (fun _ => rfl) (.cons _ _ _ _ (.same _) .nil) rfl (by (conv => cbv); exact ⟨.unpin _ _ _ _ _ rfl, trivial⟩) fun r4 _ h => ?_
  conv => cbv
  refine .mk [(4, 20000, false)] [] rfl rfl ?_ ?_
  · conv => cbv
    cases h
    exact ⟨.arr _ _ _ _ _ _ rfl, trivial⟩
  · conv => cbv
    cases h
    exact .cons _ _ _ _ (.same _) .nil
def T_chain_Guess_Fits : Tab := [(3, ⟨.int .i64, 1, 8, [.int .i64 (.lit 0)]⟩), (4, ⟨.bool, 1, 1, [.bool (.lit false)]⟩), (23, ⟨.struct [(0, 3), (1, 3), (2, 3)], 3, 24, [.int .i64 (.lit 0), .int .i64 (.lit 0), .int .i64 (.lit 0)]⟩), (25, ⟨.struct [(0, 23), (3, 4), (4, 3)], 5, 40, [.int .i64 (.lit 0), .int .i64 (.lit 0), .int .i64 (.lit 0), .bool (.lit false), .int .i64 (.lit 0)]⟩), (45, ⟨.struct [(0, 23), (3, 3), (4, 3), (5, 3), (6, 3), (7, 4)], 8, 64, [.int .i64 (.lit 0), .int .i64 (.lit 0), .int .i64 (.lit 0), .int .i64 (.lit 0), .int .i64 (.lit 0), .int .i64 (.lit 0), .int .i64 (.lit 0), .bool (.lit false)]⟩)]
theorem T_chain_Guess_Fits_ok : TabOk Try.prog T_chain_Guess_Fits := by
  have h : T_chain_Guess_Fits = tabOf Try.prog [3, 4, 23, 25, 45] := by kernel_rfl
  rw [h]; exact tabOk_of (by kernel_rfl)
theorem v_chain_Guess_Fits {y0 : chain_Guess} {y1 : chain_Cand} {y2 : Bool} {r : Bool} (h : chain_Guess_Fits y0 y1 y2 = some r) : AVal Try.prog [] 23 [e_chain_Guess y0, e_chain_Cand y1, e_bool y2] (e_bool r) := by
  refine aval_of (c := ⟨T_chain_Guess_Fits, [], 38, [], [(23, [.i, .i, .i])]⟩) Try.func23 (by kernel_rfl) rfl rfl rfl T_chain_Guess_Fits_ok (eqsOk_of (by kernel_rfl)) Try_mixed rfl fun P hP _ => ?_
  unfold chain_Guess_Fits at h
  conv => cbv
  refine .own ?_
  conv => cbv
  refine .own ?_
  conv => cbv
  refine .mk ?_
  conv => cbv
  refine .mk ?_
  conv => cbv
  refine den_br h (fun _ h => ?_) (fun _ h => ?_)
  · conv => cbv
    cases h
    exact .bool _ _ rfl
  conv => cbv
  refine .mk ?_
  conv => cbv
  refine den_br h (fun _ h => ?_) (fun _ h => ?_)
  · conv => cbv
    cases h
    exact .bool _ _ rfl
  conv => cbv
  refine .mk ?_
  conv => cbv
  cases h
  exact .bool _ _ rfl
def Tx_chain_Heaviest_c1 : Tab := [(25, ⟨.struct [(0, 23), (3, 4), (4, 3)], 5, 40, [.int .i64 (.lit 0), .int .i64 (.lit 0), .int .i64 (.lit 0), .bool (.lit false), .int .i64 (.lit 0)]⟩), (45, ⟨.struct [(0, 23), (3, 3), (4, 3), (5, 3), (6, 3), (7, 4)], 8, 64, [.int .i64 (.lit 0), .int .i64 (.lit 0), .int .i64 (.lit 0), .int .i64 (.lit 0), .int .i64 (.lit 0), .int .i64 (.lit 0), .int .i64 (.lit 0), .bool (.lit false)]⟩)]
theorem Tx_chain_Heaviest_c1_ok : TabOk Try.prog Tx_chain_Heaviest_c1 := by
  have h : Tx_chain_Heaviest_c1 = tabOf Try.prog [25, 45] := by kernel_rfl
  rw [h]; exact tabOk_of (by kernel_rfl)
theorem x_chain_Heaviest_c1 {y0 : chain_Cand} {y1 : Int} {y2 : Int} {y3 : Int} {y4 : Bool} {y5 : Int} {r : Bool} (h : chain_Heaviest_c1 y0 y1 y2 y3 y4 y5 = some r) : ACalls Try.prog [] 22 [e_chain_Cand y0, .rptr [.int .i64 (.v y1), .int .i64 (.v y2), .int .i64 (.v y3), .bool (.v y4), .int .i64 (.v y5)]] [] (fun x o' => x = .bool (.v r) ∧ o' = []) := by
  refine acalls_of (c := ⟨Tx_chain_Heaviest_c1, [], 8, [], []⟩) Try.func22 (by kernel_rfl) rfl rfl rfl Tx_chain_Heaviest_c1_ok (eqsOk_of (by kernel_rfl)) Try_mixed rfl rfl rfl fun P hP _ => ?_
  unfold chain_Heaviest_c1 at h
  conv => cbv
  refine .own ?_
  conv => cbv
  refine den_call e_bool [e_chain_Guess (⟨(⟨y1, y2, y3⟩ : api_Params), y4, y5⟩ : chain_Guess), e_chain_Cand y0, e_bool true] h (fun _ h => hP ▸ v_chain_Guess_Fits h) (.cons _ _ _ _ (.same _) (.cons _ _ _ _ (.same _) (.cons _ _ _ _ (.bool _ _ rfl) .nil))) rfl rfl (fun _ => rfl) fun r1 _ h => ?_
  conv => cbv
  refine .mk [] [] rfl rfl ?_ ?_
  · conv => cbv
    cases h
    trivial
  conv => cbv
  cases h
  exact .cons _ _ _ _ (.bool _ _ rfl) .nil
def Tx_slices_IndexFunc_schain_Cand_chain_Cand_x2 : Tab := [(26, ⟨.slice 45, 1, 24, [.nilsl]⟩), (45, ⟨.struct [(0, 23), (3, 3), (4, 3), (5, 3), (6, 3), (7, 4)], 8, 64, [.int .i64 (.lit 0), .int .i64 (.lit 0), .int .i64 (.lit 0), .int .i64 (.lit 0), .int .i64 (.lit 0), .int .i64 (.lit 0), .int .i64 (.lit 0), .bool (.lit false)]⟩)]
theorem Tx_slices_IndexFunc_schain_Cand_chain_Cand_x2_ok : TabOk Try.prog Tx_slices_IndexFunc_schain_Cand_chain_Cand_x2 := by
  have h : Tx_slices_IndexFunc_schain_Cand_chain_Cand_x2 = tabOf Try.prog [26, 45] := by kernel_rfl
  rw [h]; exact tabOk_of (by kernel_rfl)
theorem x_slices_IndexFunc_schain_Cand_chain_Cand_x2 {y0 : List chain_Cand} {y1 : Int} {y2 : Int} {y3 : Int} {y4 : Bool} {y5 : Int} {r : Int} (h : slices_IndexFunc_schain_Cand_chain_Cand_x2 y0 y1 y2 y3 y4 y5 = some r) : ACalls Try.prog [] 37 [(e_sl 8 e_chain_Cand) y0, .fn 22 [] [.rptr [.int .i64 (.v y1), .int .i64 (.v y2), .int .i64 (.v y3), .bool (.v y4), .int .i64 (.v y5)]]] [] (fun x o' => x = .int .i64 (.v r) ∧ o' = []) := by
  refine acalls_of (c := ⟨Tx_slices_IndexFunc_schain_Cand_chain_Cand_x2, [], 19, [], []⟩) Try.func37 (by kernel_rfl) rfl rfl rfl Tx_slices_IndexFunc_schain_Cand_chain_Cand_x2_ok (eqsOk_of (by kernel_rfl)) Try_mixed rfl rfl rfl fun P hP _ => ?_
  unfold slices_IndexFunc_schain_Cand_chain_Cand_x2 at h
  conv => cbv
  refine den_cut (r := r) (fun j1 : Unit => ⟨[], [], []⟩) slices_IndexFunc_schain_Cand_chain_Cand_x2_K1 ?_ (fun j1 h => ?_)
  · conv => cbv
    refine den_loop (slices_IndexFunc_schain_Cand_chain_Cand_x2_L1 y0 y1 y2 y3 y4 y5) h (fun a2 : Int => ⟨[(0, .sl 8 e_chain_Cand y0), (1, .fn 22 [] [.rptr [.int .i64 (.v y1), .int .i64 (.v y2), .int .i64 (.v y3), .bool (.v y4), .int .i64 (.v y5)]]), (7, .int .i64 (.len y0)), (8, .int .i64 (.v a2))], [], []⟩) ?_ (fun _ _ a2 x1 h hb1 hx1 => ?_)
    · intro j0 hj
      conv => cbv
      subst hj
      exact ⟨.same _, .same _, .same _, .int _ _ _ rfl, trivial⟩
    unfold slices_IndexFunc_schain_Cand_chain_Cand_x2_L1 at h
    conv => cbv
    refine den_br h (fun _ h => ?_) (fun _ h => ?_)
    · conv => cbv
      refine .mk ?_
      conv => cbv
      refine den_elem h fun p3 _ h => ?_
      conv => cbv
      refine den_own [] [] (fun r : Bool => .bool (.v r)) [] (fun r : Bool => []) [e_chain_Cand p3, .rptr [.int .i64 (.v y1), .int .i64 (.v y2), .int .i64 (.v y3), .bool (.v y4), .int .i64 (.v y5)]] h (fun _ h => hP ▸ x_chain_Heaviest_c1 h) (fun _ => rfl) (by (conv => cbv); exact .cons _ _ _ _ (.same _) (.cons _ _ _ _ (.same _) .nil)) rfl True.intro fun r4 _ h => ?_
      conv => cbv
      refine den_br h (fun _ h => ?_) (fun _ h => ?_)
      · conv => cbv
        replace h := den_out h hx1
        refine .mk [] [] rfl rfl ?_ ?_
        · conv => cbv
          cases h
          trivial
        conv => cbv
        cases h
        exact .cons _ _ _ _ (.int _ _ _ rfl) .nil
      conv => cbv
      refine den_back h hb1 fun j0 hj => ?_
      conv => cbv
      subst hj
      exact ⟨.same _, .same _, .same _, .int _ _ _ rfl, trivial⟩
    conv => cbv
    replace h := den_out h hx1
    refine den_join h fun j0 hj => ?_
    conv => cbv
    subst hj
    exact trivial
  unfold slices_IndexFunc_schain_Cand_chain_Cand_x2_K1 at h
  conv => cbv
  refine .mk [] [] rfl rfl ?_ ?_
  · conv => cbv
    cases h
    trivial
  conv => cbv
  cases h
  exact .cons _ _ _ _ (.int _ _ _ rfl) .nil
def Tx_slices_DeleteFunc_schain_Cand_chain_Cand_x2 : Tab := [(26, ⟨.slice 45, 1, 24, [.nilsl]⟩), (45, ⟨.struct [(0, 23), (3, 3), (4, 3), (5, 3), (6, 3), (7, 4)], 8, 64, [.int .i64 (.lit 0), .int .i64 (.lit 0), .int .i64 (.lit 0), .int .i64 (.lit 0), .int .i64 (.lit 0), .int .i64 (.lit 0), .int .i64 (.lit 0), .bool (.lit false)]⟩)]
theorem Tx_slices_DeleteFunc_schain_Cand_chain_Cand_x2_ok : TabOk Try.prog Tx_slices_DeleteFunc_schain_Cand_chain_Cand_x2 := by
  have h : Tx_slices_DeleteFunc_schain_Cand_chain_Cand_x2 = tabOf Try.prog [26, 45] := by kernel_rfl
  rw [h]; exact tabOk_of (by kernel_rfl)
theorem x_slices_DeleteFunc_schain_Cand_chain_Cand_x2 {y0 : Int} {y1 : Int} {y2 : Int} {y3 : Bool} {y4 : Int} {y5 : List chain_Cand} {r : (List chain_Cand)} (h : slices_DeleteFunc_schain_Cand_chain_Cand_x2 y0 y1 y2 y3 y4 y5 = some r) : ACalls Try.prog [] 20 [.osl 10000, .fn 22 [] [.rptr [.int .i64 (.v y0), .int .i64 (.v y1), .int .i64 (.v y2), .bool (.v y3), .int .i64 (.v y4)]]] [(10000, .arr false 45 8 e_chain_Cand y5)] (fun x o' => x = .osl 10000 ∧ o' = [(10000, .arr false 45 8 e_chain_Cand r)]) := by
  refine acalls_of (c := ⟨Tx_slices_DeleteFunc_schain_Cand_chain_Cand_x2, [], 42, [], []⟩) Try.func20 (by kernel_rfl) rfl rfl rfl Tx_slices_DeleteFunc_schain_Cand_chain_Cand_x2_ok (eqsOk_of (by kernel_rfl)) Try_mixed rfl rfl rfl fun P hP _ => ?_
  unfold slices_DeleteFunc_schain_Cand_chain_Cand_x2 at h
  conv => cbv
  refine den_lend (fun r : Int => .int .i64 (.v r)) [(e_sl 8 e_chain_Cand) y5, .fn 22 [] [.rptr [.int .i64 (.v y0), .int .i64 (.v y1), .int .i64 (.v y2), .bool (.v y3), .int .i64 (.v y4)]]] h (fun _ h => hP ▸ (x_slices_IndexFunc_schain_Cand_chain_Cand_x2 h).mono (fun _ _ h => h.1)) (.cons _ _ _ _ (.same _) (.cons _ _ _ _ (.same _) .nil)) (fun _ => rfl) fun r1 _ h => ?_
  conv => cbv
  refine den_br h (fun _ h => ?_) (fun _ h => ?_)
  · conv => cbv
    refine .mk [(10000, 10000, false)] [] rfl rfl ?_ ?_
    · conv => cbv
      cases h
      exact ⟨.arr _ _ _ _ _ _ rfl, trivial⟩
    conv => cbv
    cases h
    exact .cons _ _ _ _ (.same _) .nil
  conv => cbv
  refine den_cut (r := r) (fun j2 : Int × (List chain_Cand) => ⟨[(0, .osl 10000), (5, .int .i64 (.v j2.1))], [(10000, .arr false 45 8 e_chain_Cand j2.2)], []⟩) slices_DeleteFunc_schain_Cand_chain_Cand_x2_K1 ?_ (fun j2 h => ?_)
  · conv => cbv
    refine den_loop (slices_DeleteFunc_schain_Cand_chain_Cand_x2_L1 y0 y1 y2 y3 y4) h (fun a7 : Int × Int × (List chain_Cand) => ⟨[(0, .osl 10000), (1, .fn 22 [] [.rptr [.int .i64 (.v y0), .int .i64 (.v y1), .int .i64 (.v y2), .bool (.v y3), .int .i64 (.v y4)]]), (5, .int .i64 (.v a7.1)), (6, .int .i64 (.v a7.2.1))], [(10000, .arr false 45 8 e_chain_Cand a7.2.2)], []⟩) ?_ (fun _ _ a7 x1 h hb1 hx1 => ?_)
    · intro j0 hj
      conv => cbv
      subst hj
      exact ⟨⟨.arr _ _ _ _ _ _ rfl, trivial⟩, .same _, .same _, .int _ _ _ rfl, .int _ _ _ rfl, trivial⟩
    unfold slices_DeleteFunc_schain_Cand_chain_Cand_x2_L1 at h
    conv => cbv
    refine den_br h (fun _ h => ?_) (fun _ h => ?_)
    · conv => cbv
      refine den_cut (r := x1) (fun j8 : Int × (List chain_Cand) => ⟨[(0, .osl 10000), (1, .fn 22 [] [.rptr [.int .i64 (.v y0), .int .i64 (.v y1), .int .i64 (.v y2), .bool (.v y3), .int .i64 (.v y4)]]), (5, .int .i64 (.v j8.1)), (6, .int .i64 (.v a7.2.1))], [(10000, .arr false 45 8 e_chain_Cand j8.2)], []⟩) (slices_DeleteFunc_schain_Cand_chain_Cand_x2_K2 a7) ?_ (fun j8 h => ?_)
      · conv => cbv
        refine .mk ?_
        conv => cbv
        refine den_chk h fun h => ?_
        conv => cbv
        refine den_chk h fun h => ?_
        conv => cbv
        refine den_eload h fun p9 _ h => ?_
        conv => cbv
        refine den_own [] [] (fun r : Bool => .bool (.v r)) [] (fun r : Bool => []) [e_chain_Cand p9, .rptr [.int .i64 (.v y0), .int .i64 (.v y1), .int .i64 (.v y2), .bool (.v y3), .int .i64 (.v y4)]] h (fun _ h => hP ▸ x_chain_Heaviest_c1 h) (fun _ => rfl) (by (conv => cbv); exact .cons _ _ _ _ (.same _) (.cons _ _ _ _ (.same _) .nil)) rfl True.intro fun r10 _ h => ?_
        conv => cbv
        refine den_br h (fun _ h => ?_) (fun _ h => ?_)
        · conv => cbv
          refine den_chk h fun h => ?_
          conv => cbv
          refine den_chk h fun h => ?_
          conv => cbv
          refine den_estore (f := e_chain_Cand) p9 h (fun _ => CEqL.of_lepl (.cons _ _ _ _ (.same _) (.cons _ _ _ _ (.same _) (.cons _ _ _ _ (.same _) (.cons _ _ _ _ (.same _) (.cons _ _ _ _ (.same _) (.cons _ _ _ _ (.same _) (.cons _ _ _ _ (.same _) (.cons _ _ _ _ (.same _) .nil)))))))) rfl) fun l11 _ h => ?_
          conv => cbv
          refine den_join h fun j0 hj => ?_
          conv => cbv
          subst hj
          exact ⟨⟨.arr _ _ _ _ _ _ rfl, trivial⟩, .same _, .same _, .int _ _ _ rfl, .same _, trivial⟩
        conv => cbv
        refine den_join h fun j0 hj => ?_
        conv => cbv
        subst hj
        exact ⟨⟨.arr _ _ _ _ _ _ rfl, trivial⟩, .same _, .same _, .int _ _ _ rfl, .same _, trivial⟩
      unfold slices_DeleteFunc_schain_Cand_chain_Cand_x2_K2 at h
      conv => cbv
      refine den_back h hb1 fun j0 hj => ?_
      conv => cbv
      subst hj
      exact ⟨⟨.arr _ _ _ _ _ _ rfl, trivial⟩, .same _, .same _, .int _ _ _ rfl, .int _ _ _ rfl, trivial⟩
    conv => cbv
    replace h := den_out h hx1
    refine den_join h fun j0 hj => ?_
    conv => cbv
    subst hj
    exact ⟨⟨.arr _ _ _ _ _ _ rfl, trivial⟩, .same _, .int _ _ _ rfl, trivial⟩
  unfold slices_DeleteFunc_schain_Cand_chain_Cand_x2_K1 at h
  conv => cbv
  refine den_subo_v h fun l3 il3 ml3 hil3 hml3 _ h => ?_
  conv => cbv
  subst hil3
  subst hml3
  refine den_clear e_chain_Cand j2.1 ((j2.2.length : Int) - j2.1) (⟨(⟨(0 : Int), (0 : Int), (0 : Int)⟩ : api_Params), (0 : Int), (0 : Int), (0 : Int), (0 : Int), false⟩ : chain_Cand) h rfl (.inr ⟨_, _, rfl, rfl, rfl⟩) (CEqL.of_lepl (.cons _ _ _ _ (.int _ _ _ rfl) (.cons _ _ _ _ (.int _ _ _ rfl) (.cons _ _ _ _ (.int _ _ _ rfl) (.cons _ _ _ _ (.int _ _ _ rfl) (.cons _ _ _ _ (.int _ _ _ rfl) (.cons _ _ _ _ (.int _ _ _ rfl) (.cons _ _ _ _ (.int _ _ _ rfl) (.cons _ _ _ _ (.bool _ _ rfl) .nil)))))))) rfl) (fun h => ?_) (fun l4 _ h => ?_)
  · conv => cbv
    refine den_subo_t h rfl fun l5 _ h => ?_
    conv => cbv
    refine .mk [(10000, 10000, false)] [] rfl rfl ?_ ?_
    · conv => cbv
      cases h
      exact ⟨.arr _ _ _ _ _ _ rfl, trivial⟩
    conv => cbv
    cases h
    exact .cons _ _ _ _ (.same _) .nil
  · conv => cbv
    refine den_subo_t h rfl fun l6 _ h => ?_
    conv => cbv
    refine .mk [(10000, 10000, false)] [] rfl rfl ?_ ?_
    · conv => cbv
      cases h
      exact ⟨.arr _ _ _ _ _ _ rfl, trivial⟩
    conv => cbv
    cases h
    exact .cons _ _ _ _ (.same _) .nil
def Tx_chain_Heaviest_c2 : Tab := [(45, ⟨.struct [(0, 23), (3, 3), (4, 3), (5, 3), (6, 3), (7, 4)], 8, 64, [.int .i64 (.lit 0), .int .i64 (.lit 0), .int .i64 (.lit 0), .int .i64 (.lit 0), .int .i64 (.lit 0), .int .i64 (.lit 0), .int .i64 (.lit 0), .bool (.lit false)]⟩)]
theorem Tx_chain_Heaviest_c2_ok : TabOk Try.prog Tx_chain_Heaviest_c2 := by
  have h : Tx_chain_Heaviest_c2 = tabOf Try.prog [45] := by kernel_rfl
  rw [h]; exact tabOk_of (by kernel_rfl)
theorem x_chain_Heaviest_c2 {y0 : Int} {y1 : chain_step} {y2 : List (Int × chain_step)} {y3 : List chain_Cand} {r : Unit} (h : chain_Heaviest_c2 y0 y1 y2 y3 = some r) : ACalls Try.prog [] 24 [e_i64 y0, e_chain_step y1, .ptr 10000 0, .ptr 10001 0] [(10000, .var [.mp 10002]), (10001, .var [.osl 10003]), (10002, .map e_chain_step y2), (10003, .arr false 45 8 e_chain_Cand y3)] (fun x o' => x = .fn 25 [] [.ptr 10000 0, .ptr 10001 0, .ptr 20000 0, .ptr 20001 0] ∧ o' = [(10000, .var [.mp 10002]), (10001, .var [.osl 10003]), (10002, .map e_chain_step y2), (10003, .arr false 45 8 e_chain_Cand y3), (20000, .var [.int .i64 (.v y0)]), (20001, .var [.int .i64 (.v y1.m_weight), .int .i64 (.v y1.m_next)])]) := by
  refine acalls_of (c := ⟨Tx_chain_Heaviest_c2, [], 8, [10000, 10001, 10002], []⟩) Try.func24 (by kernel_rfl) rfl rfl rfl Tx_chain_Heaviest_c2_ok (eqsOk_of (by kernel_rfl)) Try_mixed rfl rfl rfl fun P hP _ => ?_
  unfold chain_Heaviest_c2 at h
  conv => cbv
  refine .own ?_
  conv => cbv
  refine .own ?_
  conv => cbv
  refine .mk [(10000, 10000, false), (10001, 10001, false), (10002, 10002, false), (10003, 10003, false), (4, 20000, false), (5, 20001, false)] [] rfl rfl ?_ ?_
  · conv => cbv
    cases h
    exact ⟨.same _, .same _, .same _, .same _, .same _, .same _, trivial⟩
  conv => cbv
  cases h
  exact .cons _ _ _ _ (.same _) .nil
def T_chain_Follows : Tab := [(3, ⟨.int .i64, 1, 8, [.int .i64 (.lit 0)]⟩), (4, ⟨.bool, 1, 1, [.bool (.lit false)]⟩), (45, ⟨.struct [(0, 23), (3, 3), (4, 3), (5, 3), (6, 3), (7, 4)], 8, 64, [.int .i64 (.lit 0), .int .i64 (.lit 0), .int .i64 (.lit 0), .int .i64 (.lit 0), .int .i64 (.lit 0), .int .i64 (.lit 0), .int .i64 (.lit 0), .bool (.lit false)]⟩)]
theorem T_chain_Follows_ok : TabOk Try.prog T_chain_Follows := by
  have h : T_chain_Follows = tabOf Try.prog [3, 4, 45] := by kernel_rfl
  rw [h]; exact tabOk_of (by kernel_rfl)
theorem v_chain_Follows {y0 : chain_Cand} {y1 : chain_Cand} {r : Bool} (h : chain_Follows y0 y1 = some r) : AVal Try.prog [] 26 [e_chain_Cand y0, e_chain_Cand y1] (e_bool r) := by
  refine aval_of (c := ⟨T_chain_Follows, [], 30, [], []⟩) Try.func26 (by kernel_rfl) rfl rfl rfl T_chain_Follows_ok (eqsOk_of (by kernel_rfl)) Try_mixed rfl fun P hP _ => ?_
  unfold chain_Follows at h
  conv => cbv
  refine .own ?_
  conv => cbv
  refine .own ?_
  conv => cbv
  refine den_cut (r := r) (fun j1 : Int => ⟨[(2, .ptr 2 0), (3, .ptr 3 0), (5, .int .i64 (.v j1))], [(2, .var [.int .i64 (.v y0.Params.Rate), .int .i64 (.v y0.Params.Channels), .int .i64 (.v y0.Params.Depth), .int .i64 (.v y0.Offset), .int .i64 (.v y0.Size), .int .i64 (.v y0.Number), .int .i64 (.v y0.Block), .bool (.v y0.Variable)]), (3, .var [.int .i64 (.v y1.Params.Rate), .int .i64 (.v y1.Params.Channels), .int .i64 (.v y1.Params.Depth), .int .i64 (.v y1.Offset), .int .i64 (.v y1.Size), .int .i64 (.v y1.Number), .int .i64 (.v y1.Block), .bool (.v y1.Variable)])], []⟩) (chain_Follows_K1 y0 y1) ?_ (fun j1 h => ?_)
  · conv => cbv
    refine den_br h (fun _ h => ?_) (fun _ h => ?_)
    · conv => cbv
      refine .mk ?_
      conv => cbv
      refine den_join h fun j0 hj => ?_
      conv => cbv
      subst hj
      exact ⟨⟨.same _, .same _, trivial⟩, .same _, .same _, .int _ _ _ rfl, trivial⟩
    conv => cbv
    refine den_join h fun j0 hj => ?_
    conv => cbv
    subst hj
    exact ⟨⟨.same _, .same _, trivial⟩, .same _, .same _, .int _ _ _ rfl, trivial⟩
  unfold chain_Follows_K1 at h
  conv => cbv
  refine .mk ?_
  conv => cbv
  refine .mk ?_
  conv => cbv
  cases h
  exact .bool _ _ rfl
def Tx_chain_Heaviest_c2_c1 : Tab := [(3, ⟨.int .i64, 1, 8, [.int .i64 (.lit 0)]⟩), (26, ⟨.slice 45, 1, 24, [.nilsl]⟩), (45, ⟨.struct [(0, 23), (3, 3), (4, 3), (5, 3), (6, 3), (7, 4)], 8, 64, [.int .i64 (.lit 0), .int .i64 (.lit 0), .int .i64 (.lit 0), .int .i64 (.lit 0), .int .i64 (.lit 0), .int .i64 (.lit 0), .int .i64 (.lit 0), .bool (.lit false)]⟩), (54, ⟨.map 3 56, 1, 8, [.junk]⟩), (56, ⟨.struct [(0, 3), (1, 3)], 2, 16, [.int .i64 (.lit 0), .int .i64 (.lit 0)]⟩)]
theorem Tx_chain_Heaviest_c2_c1_ok : TabOk Try.prog Tx_chain_Heaviest_c2_c1 := by
  have h : Tx_chain_Heaviest_c2_c1 = tabOf Try.prog [3, 26, 45, 54, 56] := by kernel_rfl
  rw [h]; exact tabOk_of (by kernel_rfl)
theorem x_chain_Heaviest_c2_c1 {y0 : Int} {y1 : Int} {y2 : chain_step} {y3 : List (Int × chain_step)} {y4 : List chain_Cand} {r : Int × Int × Int × Int} (h : chain_Heaviest_c2_c1 y0 y1 y2 y3 y4 = some r) : ACalls Try.prog [] 25 [e_i64 y0, .ptr 10000 0, .ptr 10001 0, .ptr 10002 0, .ptr 10003 0] [(10000, .var [.mp 10004]), (10001, .var [.osl 10005]), (10002, .var [.int .i64 (.v y1)]), (10003, .var [.int .i64 (.v y2.m_weight), .int .i64 (.v y2.m_next)]), (10004, .map e_chain_step y3), (10005, .arr false 45 8 e_chain_Cand y4)] (fun x o' => x = .agg [.int .i64 (.v r.1), .int .i64 (.v r.2.1)] ∧ o' = [(10000, .var [.mp 10004]), (10001, .var [.osl 10005]), (10002, .var [.int .i64 (.v y1)]), (10003, .var [.int .i64 (.v r.2.2.1), .int .i64 (.v r.2.2.2)]), (10004, .map e_chain_step y3), (10005, .arr false 45 8 e_chain_Cand y4)]) := by
  refine acalls_of (c := ⟨Tx_chain_Heaviest_c2_c1, [], 45, [10000, 10001, 10002, 10003, 10004], []⟩) Try.func25 (by kernel_rfl) rfl rfl rfl Tx_chain_Heaviest_c2_c1_ok (eqsOk_of (by kernel_rfl)) Try_mixed rfl rfl rfl fun P hP _ => ?_
  unfold chain_Heaviest_c2_c1 at h
  conv => cbv
  refine den_cut (r := r) (fun j1 : Int × Int => ⟨[(4, .ptr 10003 0), (6, .ptr 6 0)], [(6, .var [.int .i64 (.lit 0), .int .i64 (.lit 0)]), (10000, .var [.mp 10004]), (10001, .var [.osl 10005]), (10002, .var [.int .i64 (.v y1)]), (10003, .var [.int .i64 (.v j1.1), .int .i64 (.v j1.2)]), (10004, .map e_chain_step y3), (10005, .arr false 45 8 e_chain_Cand y4)], []⟩) chain_Heaviest_c2_c1_K1 ?_ (fun j1 h => ?_)
  · conv => cbv
    refine den_look (⟨(0 : Int), (0 : Int)⟩ : chain_step) h (CEq.of_lep (.agg _ _ (.cons _ _ _ _ (.int _ _ _ rfl) (.cons _ _ _ _ (.int _ _ _ rfl) .nil))) rfl) fun p2 _ _ h => ?_
    conv => cbv
    refine den_cut (r := r) (fun j3 : Bool => ⟨[(0, .int .i64 (.v y0)), (2, .ptr 10001 0), (3, .ptr 10002 0), (4, .ptr 10003 0), (6, .ptr 6 0), (7, .ptr 7 0), (32, .bool (.v j3))], [(6, .var [.int .i64 (.lit 0), .int .i64 (.lit 0)]), (7, .var [.int .i64 (.v p2.m_weight), .int .i64 (.v p2.m_next)]), (10000, .var [.mp 10004]), (10001, .var [.osl 10005]), (10002, .var [.int .i64 (.v y1)]), (10003, .var [.int .i64 (.v y2.m_weight), .int .i64 (.v y2.m_next)]), (10004, .map e_chain_step y3), (10005, .arr false 45 8 e_chain_Cand y4)], []⟩) (chain_Heaviest_c2_c1_K2 y0 y1 y2 y4 p2) ?_ (fun j3 h => ?_)
    · conv => cbv
      refine .mk (some []) (by kernel_rfl) ?_
      conv => cbv
      refine den_chk h fun h => ?_
      conv => cbv
      refine den_chk h fun h => ?_
      conv => cbv
      refine den_eload h fun p5 _ h => ?_
      conv => cbv
      refine .mk ?_
      conv => cbv
      refine den_chk h fun h => ?_
      conv => cbv
      refine den_chk h fun h => ?_
      conv => cbv
      refine den_eload h fun p6 _ h => ?_
      conv => cbv
      refine den_call e_bool [e_chain_Cand p5, e_chain_Cand p6] h (fun _ h => hP ▸ v_chain_Follows h) (.cons _ _ _ _ (.same _) (.cons _ _ _ _ (.same _) .nil)) rfl rfl (fun _ => rfl) fun r7 _ h => ?_
      conv => cbv
      refine .mk ?_
      conv => cbv
      refine den_br h (fun _ h => ?_) (fun _ h => ?_)
      · conv => cbv
        refine den_chk h fun h => ?_
        conv => cbv
        refine den_chk h fun h => ?_
        conv => cbv
        refine .mk ?_
        conv => cbv
        refine den_eload h fun p8 _ h => ?_
        conv => cbv
        refine den_join h fun j0 hj => ?_
        conv => cbv
        subst hj
        exact ⟨⟨.same _, .same _, .same _, .same _, .same _, .same _, .same _, .same _, trivial⟩, .same _, .same _, .same _, .same _, .same _, .same _, .bool _ _ rfl, trivial⟩
      conv => cbv
      refine .mk ?_
      conv => cbv
      refine den_join h fun j0 hj => ?_
      conv => cbv
      subst hj
      exact ⟨⟨.same _, .same _, .same _, .same _, .same _, .same _, .same _, .same _, trivial⟩, .same _, .same _, .same _, .same _, .same _, .same _, .bool _ _ rfl, trivial⟩
    unfold chain_Heaviest_c2_c1_K2 at h
    conv => cbv
    refine den_br h (fun _ h => ?_) (fun _ h => ?_)
    · conv => cbv
      refine .mk (some [10003]) (by kernel_rfl) ?_
      conv => cbv
      refine den_chk h fun h => ?_
      conv => cbv
      refine den_chk h fun h => ?_
      conv => cbv
      refine den_eload h fun p4 _ h => ?_
      conv => cbv
      refine .mk ?_
      conv => cbv
      refine .mk ?_
      conv => cbv
      refine den_join h fun j0 hj => ?_
      conv => cbv
      subst hj
      exact ⟨⟨.same _, .same _, .same _, .same _, .var _ _ (.cons _ _ _ _ (.int _ _ _ rfl) (.cons _ _ _ _ (.int _ _ _ rfl) .nil)), .same _, .same _, trivial⟩, .same _, .same _, trivial⟩
    conv => cbv
    refine den_join h fun j0 hj => ?_
    conv => cbv
    subst hj
    exact ⟨⟨.same _, .same _, .same _, .same _, .var _ _ (.cons _ _ _ _ (.int _ _ _ rfl) (.cons _ _ _ _ (.int _ _ _ rfl) .nil)), .same _, .same _, trivial⟩, .same _, .same _, trivial⟩
  unfold chain_Heaviest_c2_c1_K1 at h
  conv => cbv
  refine .mk [(10000, 10000, false), (10001, 10001, false), (10002, 10002, false), (10003, 10003, false), (10004, 10004, false), (10005, 10005, false)] [] rfl rfl ?_ ?_
  · conv => cbv
    cases h
    exact ⟨.same _, .same _, .same _, .var _ _ (.cons _ _ _ _ (.int _ _ _ rfl) (.cons _ _ _ _ (.int _ _ _ rfl) .nil)), .same _, .same _, trivial⟩
  conv => cbv
  cases h
  exact .cons _ _ _ _ (.agg _ _ (.cons _ _ _ _ (.int _ _ _ rfl) (.cons _ _ _ _ (.int _ _ _ rfl) .nil))) .nil
def T_chain_Heaviest : Tab := [(3, ⟨.int .i64, 1, 8, [.int .i64 (.lit 0)]⟩), (25, ⟨.struct [(0, 23), (3, 4), (4, 3)], 5, 40, [.int .i64 (.lit 0), .int .i64 (.lit 0), .int .i64 (.lit 0), .bool (.lit false), .int .i64 (.lit 0)]⟩), (26, ⟨.slice 45, 1, 24, [.nilsl]⟩), (45, ⟨.struct [(0, 23), (3, 3), (4, 3), (5, 3), (6, 3), (7, 4)], 8, 64, [.int .i64 (.lit 0), .int .i64 (.lit 0), .int .i64 (.lit 0), .int .i64 (.lit 0), .int .i64 (.lit 0), .int .i64 (.lit 0), .int .i64 (.lit 0), .bool (.lit false)]⟩), (54, ⟨.map 3 56, 1, 8, [.junk]⟩), (56, ⟨.struct [(0, 3), (1, 3)], 2, 16, [.int .i64 (.lit 0), .int .i64 (.lit 0)]⟩)]
theorem T_chain_Heaviest_ok : TabOk Try.prog T_chain_Heaviest := by
  have h : T_chain_Heaviest = tabOf Try.prog [3, 25, 26, 45, 54, 56] := by kernel_rfl
  rw [h]; exact tabOk_of (by kernel_rfl)
theorem v_chain_Heaviest {y0 : chain_Guess} {y1 : List chain_Cand} {r : (List chain_Cand) × Int} (h : chain_Heaviest y0 y1 = some r) : AVal Try.prog [] 9 [e_chain_Guess y0, (e_sl 8 e_chain_Cand) y1] (.tup [(e_sl 8 e_chain_Cand) r.1, e_i64 r.2]) := by
  refine aval_of (c := ⟨T_chain_Heaviest, [], 86, [], []⟩) Try.func9 (by kernel_rfl) rfl rfl rfl T_chain_Heaviest_ok (eqsOk_of (by kernel_rfl)) Try_mixed rfl fun P hP _ => ?_
  unfold chain_Heaviest at h
  conv => cbv
  refine .data ?_
  conv => cbv
  refine .own ?_
  conv => cbv
  refine den_own [(16, 20000, true)] [] (fun _ => .osl 20000) [] (fun r => [(20000, .arr false 45 8 e_chain_Cand r)]) [(e_sl 8 e_chain_Cand) y1] h (fun _ h => hP ▸ w_chain_sorted_x2 h) (fun _ => rfl) (.cons _ _ _ _ (.same _) .nil) rfl True.intro fun r1 _ h => ?_
  conv => cbv
  refine den_own [(16, 10000, true)] [] (fun r : (List chain_Cand) => .osl 10000) [(10000, .arr false 45 8 e_chain_Cand r1)] (fun r : (List chain_Cand) => [(10000, .arr false 45 8 e_chain_Cand r)]) [.osl 10000, .fn 22 [] [.rptr [.int .i64 (.v y0.Params.Rate), .int .i64 (.v y0.Params.Channels), .int .i64 (.v y0.Params.Depth), .bool (.v y0.Variable), .int .i64 (.v y0.Block)]]] h (fun _ h => hP ▸ x_slices_DeleteFunc_schain_Cand_chain_Cand_x2 h) (fun _ => rfl) (by (conv => cbv); exact .cons _ _ _ _ (.same _) (.cons _ _ _ _ (.same _) .nil)) rfl (by (conv => cbv); exact ⟨.same _, trivial⟩) fun r2 _ h => ?_
  conv => cbv
  refine .mk e_chain_step ?_
  conv => cbv
  refine den_cut (r := r) (fun j3 : Int × Int × (List (Int × chain_step)) => ⟨[(3, .ptr 3 0), (6, .ptr 6 0), (8, .ptr 8 0)], [(3, .var [.osl 16]), (6, .var [.mp 19]), (8, .var [.int .i64 (.v j3.1), .int .i64 (.v j3.2.1)]), (16, .arr false 45 8 e_chain_Cand r2), (19, .map e_chain_step j3.2.2)], []⟩) (chain_Heaviest_K1 r2) ?_ (fun j3 h => ?_)
  · conv => cbv
    refine den_loop (chain_Heaviest_L2 y0 r2) h (fun a9 : Int × Int × Int × (List (Int × chain_step)) => ⟨[(2, .rptr [.int .i64 (.v y0.Params.Rate), .int .i64 (.v y0.Params.Channels), .int .i64 (.v y0.Params.Depth), .bool (.v y0.Variable), .int .i64 (.v y0.Block)]), (3, .ptr 3 0), (6, .ptr 6 0), (7, .fn 24 [] [.ptr 6 0, .ptr 3 0]), (8, .ptr 8 0), (9, .int .i64 (.v a9.1))], [(3, .var [.osl 16]), (6, .var [.mp 19]), (8, .var [.int .i64 (.v a9.2.1), .int .i64 (.v a9.2.2.1)]), (16, .arr false 45 8 e_chain_Cand r2), (19, .map e_chain_step a9.2.2.2)], []⟩) ?_ (fun _ _ a9 x1 h hb1 hx1 => ?_)
    · intro j0 hj
      conv => cbv
      subst hj
      exact ⟨⟨.same _, .same _, .var _ _ (.cons _ _ _ _ (.int _ _ _ rfl) (.cons _ _ _ _ (.int _ _ _ rfl) .nil)), .same _, .map _ _ _ rfl, trivial⟩, .same _, .same _, .same _, .same _, .same _, .int _ _ _ rfl, trivial⟩
    unfold chain_Heaviest_L2 at h
    conv => cbv
    refine den_br h (fun _ h => ?_) (fun _ h => ?_)
    · conv => cbv
      refine den_cut (r := x1) (fun j10 : Int × Int × (List (Int × chain_step)) => ⟨[(2, .rptr [.int .i64 (.v y0.Params.Rate), .int .i64 (.v y0.Params.Channels), .int .i64 (.v y0.Params.Depth), .bool (.v y0.Variable), .int .i64 (.v y0.Block)]), (3, .ptr 3 0), (6, .ptr 6 0), (7, .fn 24 [] [.ptr 6 0, .ptr 3 0]), (8, .ptr 8 0), (9, .int .i64 (.v a9.1))], [(3, .var [.osl 16]), (6, .var [.mp 19]), (8, .var [.int .i64 (.v j10.1), .int .i64 (.v j10.2.1)]), (16, .arr false 45 8 e_chain_Cand r2), (19, .map e_chain_step j10.2.2)], []⟩) (chain_Heaviest_K3 a9) ?_ (fun j10 h => ?_)
      · conv => cbv
        refine .mk ?_
        conv => cbv
        refine den_chk h fun h => ?_
        conv => cbv
        refine den_chk h fun h => ?_
        conv => cbv
        refine den_eload h fun p11 _ h => ?_
        conv => cbv
        refine den_cut (r := x1) (fun j12 : Int × Int => ⟨[(2, .rptr [.int .i64 (.v y0.Params.Rate), .int .i64 (.v y0.Params.Channels), .int .i64 (.v y0.Params.Depth), .bool (.v y0.Variable), .int .i64 (.v y0.Block)]), (3, .ptr 3 0), (6, .ptr 6 0), (7, .fn 24 [] [.ptr 6 0, .ptr 3 0]), (8, .ptr 8 0), (9, .int .i64 (.v a9.1)), (10, .ptr 10 0)], [(3, .var [.osl 16]), (6, .var [.mp 19]), (8, .var [.int .i64 (.v a9.2.1), .int .i64 (.v a9.2.2.1)]), (10, .var [.int .i64 (.v j12.1), .int .i64 (.v j12.2)]), (16, .arr false 45 8 e_chain_Cand r2), (19, .map e_chain_step a9.2.2.2)], []⟩) (chain_Heaviest_K4 a9) ?_ (fun j12 h => ?_)
        · conv => cbv
          refine .dup ?_
          conv => cbv
          refine .mk (some []) (by kernel_rfl) ?_
          conv => cbv
          refine den_chk h fun h => ?_
          conv => cbv
          refine den_chk h fun h => ?_
          conv => cbv
          refine den_eload h fun p14 _ h => ?_
          conv => cbv
          refine .mk ?_
          conv => cbv
          refine den_call e_bool [e_chain_Guess y0, e_chain_Cand p14, e_bool false] h (fun _ h => hP ▸ v_chain_Guess_Fits h) (.cons _ _ _ _ (.same _) (.cons _ _ _ _ (.same _) (.cons _ _ _ _ (.bool _ _ rfl) .nil))) rfl rfl (fun _ => rfl) fun r15 _ h => ?_
          conv => cbv
          refine den_br h (fun _ h => ?_) (fun _ h => ?_)
          · conv => cbv
            refine den_own [(6, 10000, false), (3, 10001, false), (19, 10002, false), (16, 10003, true), (44, 20000, true), (1044, 20001, true)] [] (fun r : Unit => .fn 25 [] [.ptr 10000 0, .ptr 10001 0, .ptr 20000 0, .ptr 20001 0]) [(10000, .var [.mp 10002]), (10001, .var [.osl 10003]), (10002, .map e_chain_step a9.2.2.2), (10003, .arr false 45 8 e_chain_Cand r2)] (fun r : Unit => [(10000, .var [.mp 10002]), (10001, .var [.osl 10003]), (10002, .map e_chain_step a9.2.2.2), (10003, .arr false 45 8 e_chain_Cand r2), (20000, .var [.int .i64 (.v a9.1)]), (20001, .var [.int .i64 (.v p11.Size), .int .i64 (.v ((-1) : Int))])]) [e_i64 a9.1, e_chain_step (⟨p11.Size, ((-1) : Int)⟩ : chain_step), .ptr 10000 0, .ptr 10001 0] h (fun _ h => hP ▸ x_chain_Heaviest_c2 h) (fun _ => rfl) (by (conv => cbv); exact .cons _ _ _ _ (.same _) (.cons _ _ _ _ (.agg _ _ (.cons _ _ _ _ (.same _) (.cons _ _ _ _ (.int _ _ _ rfl) .nil))) (.cons _ _ _ _ (.same _) (.cons _ _ _ _ (.same _) .nil)))) rfl (by (conv => cbv); exact ⟨.same _, .same _, .same _, .same _, trivial⟩) fun r16 _ h => ?_
            conv => cbv
            refine den_loop (chain_Heaviest_L3 r2 a9) h (fun a17 : Int × Int × Int × Int × Int => ⟨[(2, .rptr [.int .i64 (.v y0.Params.Rate), .int .i64 (.v y0.Params.Channels), .int .i64 (.v y0.Params.Depth), .bool (.v y0.Variable), .int .i64 (.v y0.Block)]), (3, .ptr 3 0), (6, .ptr 6 0), (7, .fn 24 [] [.ptr 6 0, .ptr 3 0]), (8, .ptr 8 0), (9, .int .i64 (.v a9.1)), (10, .ptr 10 0), (11, .fn 25 [] [.ptr 6 0, .ptr 3 0, .ptr 44 0, .ptr 1044 0]), (12, .int .i64 (.v a17.1))], [(3, .var [.osl 16]), (6, .var [.mp 19]), (8, .var [.int .i64 (.v a9.2.1), .int .i64 (.v a9.2.2.1)]), (10, .var [.int .i64 (.v a17.2.1), .int .i64 (.v a17.2.2.1)]), (16, .arr false 45 8 e_chain_Cand r2), (19, .map e_chain_step a9.2.2.2), (44, .var [.int .i64 (.v a9.1)]), (1044, .var [.int .i64 (.v a17.2.2.2.1), .int .i64 (.v a17.2.2.2.2)])], []⟩) ?_ (fun _ _ a17 x2 h hb2 hx2 => ?_)
            · intro j0 hj
              conv => cbv
              subst hj
              exact ⟨⟨.same _, .same _, .same _, .var _ _ (.cons _ _ _ _ (.int _ _ _ rfl) (.cons _ _ _ _ (.int _ _ _ rfl) .nil)), .same _, .same _, .same _, .var _ _ (.cons _ _ _ _ (.int _ _ _ rfl) (.cons _ _ _ _ (.int _ _ _ rfl) .nil)), trivial⟩, .same _, .same _, .same _, .same _, .same _, .same _, .same _, .same _, .int _ _ _ rfl, trivial⟩
            unfold chain_Heaviest_L3 at h
            conv => cbv
            refine den_br h (fun _ h => ?_) (fun _ h => ?_)
            · conv => cbv
              refine den_own [(6, 10000, false), (3, 10001, false), (44, 10002, false), (1044, 10003, false), (19, 10004, false), (16, 10005, true)] [] (fun r : Int × Int × Int × Int => .agg [.int .i64 (.v r.1), .int .i64 (.v r.2.1)]) [(10000, .var [.mp 10004]), (10001, .var [.osl 10005]), (10002, .var [.int .i64 (.v a9.1)]), (10003, .var [.int .i64 (.v a17.2.2.2.1), .int .i64 (.v a17.2.2.2.2)]), (10004, .map e_chain_step a9.2.2.2), (10005, .arr false 45 8 e_chain_Cand r2)] (fun r : Int × Int × Int × Int => [(10000, .var [.mp 10004]), (10001, .var [.osl 10005]), (10002, .var [.int .i64 (.v a9.1)]), (10003, .var [.int .i64 (.v r.2.2.1), .int .i64 (.v r.2.2.2)]), (10004, .map e_chain_step a9.2.2.2), (10005, .arr false 45 8 e_chain_Cand r2)]) [e_i64 a17.1, .ptr 10000 0, .ptr 10001 0, .ptr 10002 0, .ptr 10003 0] h (fun _ h => hP ▸ x_chain_Heaviest_c2_c1 h) (fun _ => rfl) (by (conv => cbv); exact .cons _ _ _ _ (.same _) (.cons _ _ _ _ (.same _) (.cons _ _ _ _ (.same _) (.cons _ _ _ _ (.same _) (.cons _ _ _ _ (.same _) .nil))))) rfl (by (conv => cbv); exact ⟨.same _, .same _, .same _, .same _, .same _, .same _, trivial⟩) fun r18 _ h => ?_
              conv => cbv
              refine den_back h hb2 fun j0 hj => ?_
              conv => cbv
              subst hj
              exact ⟨⟨.same _, .same _, .same _, .var _ _ (.cons _ _ _ _ (.int _ _ _ rfl) (.cons _ _ _ _ (.int _ _ _ rfl) .nil)), .same _, .same _, .same _, .var _ _ (.cons _ _ _ _ (.int _ _ _ rfl) (.cons _ _ _ _ (.int _ _ _ rfl) .nil)), trivial⟩, .same _, .same _, .same _, .same _, .same _, .same _, .same _, .same _, .int _ _ _ rfl, trivial⟩
            conv => cbv
            replace h := den_out h hx2
            refine den_join h fun j0 hj => ?_
            conv => cbv
            subst hj
            exact ⟨⟨.same _, .same _, .same _, .var _ _ (.cons _ _ _ _ (.int _ _ _ rfl) (.cons _ _ _ _ (.int _ _ _ rfl) .nil)), .same _, .same _, trivial⟩, .same _, .same _, .same _, .same _, .same _, .same _, .same _, trivial⟩
          conv => cbv
          refine den_join h fun j0 hj => ?_
          conv => cbv
          subst hj
          exact ⟨⟨.same _, .same _, .same _, .var _ _ (.cons _ _ _ _ (.int _ _ _ rfl) (.cons _ _ _ _ (.int _ _ _ rfl) .nil)), .same _, .same _, trivial⟩, .same _, .same _, .same _, .same _, .same _, .same _, .same _, trivial⟩
        unfold chain_Heaviest_K4 at h
        conv => cbv
        refine den_mput (⟨j12.1, j12.2⟩ : chain_step) h (CEq.of_lep (.same _) rfl) fun l13 _ h => ?_
        conv => cbv
        refine den_br h (fun _ h => ?_) (fun _ h => ?_)
        · conv => cbv
          refine den_join h fun j0 hj => ?_
          conv => cbv
          subst hj
          exact ⟨⟨.same _, .same _, .var _ _ (.cons _ _ _ _ (.int _ _ _ rfl) (.cons _ _ _ _ (.int _ _ _ rfl) .nil)), .same _, .map _ _ _ rfl, trivial⟩, .same _, .same _, .same _, .same _, .same _, .same _, trivial⟩
        conv => cbv
        refine den_join h fun j0 hj => ?_
        conv => cbv
        subst hj
        exact ⟨⟨.same _, .same _, .var _ _ (.cons _ _ _ _ (.int _ _ _ rfl) (.cons _ _ _ _ (.int _ _ _ rfl) .nil)), .same _, .map _ _ _ rfl, trivial⟩, .same _, .same _, .same _, .same _, .same _, .same _, trivial⟩
      unfold chain_Heaviest_K3 at h
      conv => cbv
      refine den_back h hb1 fun j0 hj => ?_
      conv => cbv
      subst hj
      exact ⟨⟨.same _, .same _, .var _ _ (.cons _ _ _ _ (.int _ _ _ rfl) (.cons _ _ _ _ (.int _ _ _ rfl) .nil)), .same _, .map _ _ _ rfl, trivial⟩, .same _, .same _, .same _, .same _, .same _, .int _ _ _ rfl, trivial⟩
    conv => cbv
    replace h := den_out h hx1
    refine den_join h fun j0 hj => ?_
    conv => cbv
    subst hj
    exact ⟨⟨.same _, .same _, .var _ _ (.cons _ _ _ _ (.int _ _ _ rfl) (.cons _ _ _ _ (.int _ _ _ rfl) .nil)), .same _, .map _ _ _ rfl, trivial⟩, .same _, .same _, .same _, trivial⟩
  unfold chain_Heaviest_K1 at h
  conv => cbv
  refine den_cut (r := r) (fun j4 : (List chain_Cand) => ⟨[(8, .ptr 8 0), (13, .osl 1013)], [(8, .var [.int .i64 (.v j3.1), .int .i64 (.v j3.2.1)]), (1013, .arr false 45 8 e_chain_Cand j4)], []⟩) (chain_Heaviest_K2 j3) ?_ (fun j4 h => ?_)
  · conv => cbv
    refine den_loop (chain_Heaviest_L1 r2 j3) h (fun a5 : Int × (List chain_Cand) => ⟨[(3, .ptr 3 0), (6, .ptr 6 0), (8, .ptr 8 0), (13, .osl 1013), (14, .int .i64 (.v a5.1))], [(3, .var [.osl 16]), (6, .var [.mp 19]), (8, .var [.int .i64 (.v j3.1), .int .i64 (.v j3.2.1)]), (16, .arr false 45 8 e_chain_Cand r2), (19, .map e_chain_step j3.2.2), (1013, .arr false 45 8 e_chain_Cand a5.2)], []⟩) ?_ (fun _ _ a5 x1 h hb1 hx1 => ?_)
    · intro j0 hj
      conv => cbv
      subst hj
      exact ⟨⟨.same _, .same _, .same _, .same _, .same _, .arr _ _ _ _ _ _ rfl, trivial⟩, .same _, .same _, .same _, .own _ _ _ _ _ _ rfl rfl, .int _ _ _ rfl, trivial⟩
    unfold chain_Heaviest_L1 at h
    conv => cbv
    refine den_br h (fun _ h => ?_) (fun _ h => ?_)
    · conv => cbv
      refine .mk ?_
      conv => cbv
      refine den_chk h fun h => ?_
      conv => cbv
      refine den_chk h fun h => ?_
      conv => cbv
      refine den_eload h fun p6 _ h => ?_
      conv => cbv
      refine .data ?_
      conv => cbv
      refine den_app_own e_chain_Cand (xs := [p6]) h rfl (News.sls (.cons _ _ _ _ (VEq.of_lepl (.cons _ _ _ _ (.same _) (.cons _ _ _ _ (.same _) (.cons _ _ _ _ (.same _) (.cons _ _ _ _ (.same _) (.cons _ _ _ _ (.same _) (.cons _ _ _ _ (.same _) (.cons _ _ _ _ (.same _) (.cons _ _ _ _ (.same _) .nil)))))))) rfl) .nil)) fun l7 _ h => ?_
      conv => cbv
      refine den_look (⟨(0 : Int), (0 : Int)⟩ : chain_step) h (CEq.of_lep (.agg _ _ (.cons _ _ _ _ (.int _ _ _ rfl) (.cons _ _ _ _ (.int _ _ _ rfl) .nil))) rfl) fun p8 _ _ h => ?_
      conv => cbv
      refine den_back h hb1 fun j0 hj => ?_
      conv => cbv
      subst hj
      exact ⟨⟨.same _, .same _, .same _, .same _, .same _, .arr _ _ _ _ _ _ rfl, trivial⟩, .same _, .same _, .same _, .same _, .int _ _ _ rfl, trivial⟩
    conv => cbv
    replace h := den_out h hx1
    refine den_join h fun j0 hj => ?_
    conv => cbv
    subst hj
    exact ⟨⟨.same _, .arr _ _ _ _ _ _ rfl, trivial⟩, .same _, .same _, trivial⟩
  unfold chain_Heaviest_K2 at h
  conv => cbv
  refine .dup ?_
  conv => cbv
  refine .mk (some []) (by kernel_rfl) ?_
  conv => cbv
  cases h
  exact .same _
def T_chain_Best : Tab := [(25, ⟨.struct [(0, 23), (3, 4), (4, 3)], 5, 40, [.int .i64 (.lit 0), .int .i64 (.lit 0), .int .i64 (.lit 0), .bool (.lit false), .int .i64 (.lit 0)]⟩), (66, ⟨.slice 25, 1, 24, [.nilsl]⟩)]
theorem T_chain_Best_ok : TabOk Try.prog T_chain_Best := by
  have h : T_chain_Best = tabOf Try.prog [25, 66] := by kernel_rfl
  rw [h]; exact tabOk_of (by kernel_rfl)
theorem v_chain_Best {y0 : List chain_Cand} {r : chain_Guess × (List chain_Cand) × Int} (h : chain_Best y0 = some r) : AVal Try.prog [] 15 [(e_sl 8 e_chain_Cand) y0] (.tup [e_chain_Guess r.1, (e_sl 8 e_chain_Cand) r.2.1, e_i64 r.2.2]) := by
  refine aval_of (c := ⟨T_chain_Best, [], 35, [], []⟩) Try.func15 (by kernel_rfl) rfl rfl rfl T_chain_Best_ok (eqsOk_of (by kernel_rfl)) Try_mixed rfl fun P hP _ => ?_
  unfold chain_Best at h
  conv => cbv
  refine den_cut (r := r) (fun j1 : (List chain_Cand) × Int × Int × Int × Int × Bool × Int => ⟨[(2, .ptr 2 0), (5, .ptr 5 0), (6, .sl 8 e_chain_Cand j1.1), (7, .int .i64 (.v j1.2.1))], [(2, .var [.int .i64 (.lit 0), .int .i64 (.lit 0), .int .i64 (.lit 0), .bool (.lit false), .int .i64 (.lit 0)]), (5, .var [.int .i64 (.v j1.2.2.1), .int .i64 (.v j1.2.2.2.1), .int .i64 (.v j1.2.2.2.2.1), .bool (.v j1.2.2.2.2.2.1), .int .i64 (.v j1.2.2.2.2.2.2)])], []⟩) chain_Best_K1 ?_ (fun j1 h => ?_)
  · conv => cbv
    refine den_call (e_sl 5 e_chain_Guess) [(e_sl 8 e_chain_Cand) y0] h (fun _ h => hP ▸ v_chain_Guesses h) (.cons _ _ _ _ (.same _) .nil) rfl rfl (fun _ => rfl) fun r2 _ h => ?_
    conv => cbv
    refine den_loop (chain_Best_L1 y0 r2) h (fun a3 : (List chain_Cand) × Int × Int × Int × Int × Int × Bool × Int => ⟨[(0, .sl 8 e_chain_Cand y0), (2, .ptr 2 0), (5, .ptr 5 0), (6, .sl 8 e_chain_Cand a3.1), (7, .int .i64 (.v a3.2.1)), (13, .sl 5 e_chain_Guess r2), (14, .int .i64 (.len r2)), (15, .int .i64 (.v a3.2.2.1))], [(2, .var [.int .i64 (.lit 0), .int .i64 (.lit 0), .int .i64 (.lit 0), .bool (.lit false), .int .i64 (.lit 0)]), (5, .var [.int .i64 (.v a3.2.2.2.1), .int .i64 (.v a3.2.2.2.2.1), .int .i64 (.v a3.2.2.2.2.2.1), .bool (.v a3.2.2.2.2.2.2.1), .int .i64 (.v a3.2.2.2.2.2.2.2)])], []⟩) ?_ (fun _ _ a3 x1 h hb1 hx1 => ?_)
    · intro j0 hj
      conv => cbv
      subst hj
      exact ⟨⟨.same _, .var _ _ (.cons _ _ _ _ (.int _ _ _ rfl) (.cons _ _ _ _ (.int _ _ _ rfl) (.cons _ _ _ _ (.int _ _ _ rfl) (.cons _ _ _ _ (.bool _ _ rfl) (.cons _ _ _ _ (.int _ _ _ rfl) .nil))))), trivial⟩, .same _, .same _, .same _, .nil _ _ _ rfl, .int _ _ _ rfl, .same _, .same _, .int _ _ _ rfl, trivial⟩
    unfold chain_Best_L1 at h
    conv => cbv
    refine den_br h (fun _ h => ?_) (fun _ h => ?_)
    · conv => cbv
      refine den_cut (r := x1) (fun j4 : (List chain_Cand) × Int × Int × Int × Int × Bool × Int => ⟨[(0, .sl 8 e_chain_Cand y0), (2, .ptr 2 0), (5, .ptr 5 0), (6, .sl 8 e_chain_Cand j4.1), (7, .int .i64 (.v j4.2.1)), (13, .sl 5 e_chain_Guess r2), (14, .int .i64 (.len r2)), (15, .int .i64 (.v a3.2.2.1))], [(2, .var [.int .i64 (.lit 0), .int .i64 (.lit 0), .int .i64 (.lit 0), .bool (.lit false), .int .i64 (.lit 0)]), (5, .var [.int .i64 (.v j4.2.2.1), .int .i64 (.v j4.2.2.2.1), .int .i64 (.v j4.2.2.2.2.1), .bool (.v j4.2.2.2.2.2.1), .int .i64 (.v j4.2.2.2.2.2.2)])], []⟩) (chain_Best_K2 a3) ?_ (fun j4 h => ?_)
      · conv => cbv
        refine den_elem h fun p5 _ h => ?_
        conv => cbv
        refine .mk ?_
        conv => cbv
        refine den_call (fun r : (List chain_Cand) × Int => .tup [(e_sl 8 e_chain_Cand) r.1, e_i64 r.2]) [e_chain_Guess p5, (e_sl 8 e_chain_Cand) y0] h (fun _ h => hP ▸ v_chain_Heaviest h) (.cons _ _ _ _ (.same _) (.cons _ _ _ _ (.same _) .nil)) rfl rfl (fun _ => rfl) fun r6 _ h => ?_
        conv => cbv
        refine den_br h (fun _ h => ?_) (fun _ h => ?_)
        · conv => cbv
          refine .mk ?_
          conv => cbv
          refine den_join h fun j0 hj => ?_
          conv => cbv
          subst hj
          exact ⟨⟨.same _, .var _ _ (.cons _ _ _ _ (.int _ _ _ rfl) (.cons _ _ _ _ (.int _ _ _ rfl) (.cons _ _ _ _ (.int _ _ _ rfl) (.cons _ _ _ _ (.bool _ _ rfl) (.cons _ _ _ _ (.int _ _ _ rfl) .nil))))), trivial⟩, .same _, .same _, .same _, .sl _ _ _ _ rfl, .int _ _ _ rfl, .same _, .same _, .same _, trivial⟩
        conv => cbv
        refine den_join h fun j0 hj => ?_
        conv => cbv
        subst hj
        exact ⟨⟨.same _, .var _ _ (.cons _ _ _ _ (.int _ _ _ rfl) (.cons _ _ _ _ (.int _ _ _ rfl) (.cons _ _ _ _ (.int _ _ _ rfl) (.cons _ _ _ _ (.bool _ _ rfl) (.cons _ _ _ _ (.int _ _ _ rfl) .nil))))), trivial⟩, .same _, .same _, .same _, .sl _ _ _ _ rfl, .int _ _ _ rfl, .same _, .same _, .same _, trivial⟩
      unfold chain_Best_K2 at h
      conv => cbv
      refine den_back h hb1 fun j0 hj => ?_
      conv => cbv
      subst hj
      exact ⟨⟨.same _, .var _ _ (.cons _ _ _ _ (.int _ _ _ rfl) (.cons _ _ _ _ (.int _ _ _ rfl) (.cons _ _ _ _ (.int _ _ _ rfl) (.cons _ _ _ _ (.bool _ _ rfl) (.cons _ _ _ _ (.int _ _ _ rfl) .nil))))), trivial⟩, .same _, .same _, .same _, .sl _ _ _ _ rfl, .int _ _ _ rfl, .same _, .same _, .int _ _ _ rfl, trivial⟩
    conv => cbv
    replace h := den_out h hx1
    refine den_join h fun j0 hj => ?_
    conv => cbv
    subst hj
    exact ⟨⟨.same _, .var _ _ (.cons _ _ _ _ (.int _ _ _ rfl) (.cons _ _ _ _ (.int _ _ _ rfl) (.cons _ _ _ _ (.int _ _ _ rfl) (.cons _ _ _ _ (.bool _ _ rfl) (.cons _ _ _ _ (.int _ _ _ rfl) .nil))))), trivial⟩, .same _, .same _, .sl _ _ _ _ rfl, .int _ _ _ rfl, trivial⟩
  unfold chain_Best_K1 at h
  conv => cbv
  refine .mk ?_
  conv => cbv
  cases h
  exact .same _
def T_jetsamlaw15_same : Tab := [(26, ⟨.slice 45, 1, 24, [.nilsl]⟩), (45, ⟨.struct [(0, 23), (3, 3), (4, 3), (5, 3), (6, 3), (7, 4)], 8, 64, [.int .i64 (.lit 0), .int .i64 (.lit 0), .int .i64 (.lit 0), .int .i64 (.lit 0), .int .i64 (.lit 0), .int .i64 (.lit 0), .int .i64 (.lit 0), .bool (.lit false)]⟩)]
theorem T_jetsamlaw15_same_ok : TabOk Try.prog T_jetsamlaw15_same := by
  have h : T_jetsamlaw15_same = tabOf Try.prog [26, 45] := by kernel_rfl
  rw [h]; exact tabOk_of (by kernel_rfl)
theorem v_jetsamlaw15_same {y0 : List chain_Cand} {y1 : List chain_Cand} {r : Bool} (h : jetsamlaw15_same y0 y1 = some r) : AVal Try.prog [] 17 [(e_sl 8 e_chain_Cand) y0, (e_sl 8 e_chain_Cand) y1] (e_bool r) := by
  refine aval_of (c := ⟨T_jetsamlaw15_same, [], 26, [], [(45, [.i, .i, .i, .i, .i, .i, .i, .b])]⟩) Try.func17 (by kernel_rfl) rfl rfl rfl T_jetsamlaw15_same_ok (eqsOk_of (by kernel_rfl)) Try_mixed rfl fun P hP _ => ?_
  unfold jetsamlaw15_same at h
  conv => cbv
  refine den_br h (fun _ h => ?_) (fun _ h => ?_)
  · conv => cbv
    cases h
    exact .bool _ _ rfl
  conv => cbv
  refine den_cut (r := r) (fun j1 : Unit => ⟨[], [], []⟩) jetsamlaw15_same_K1 ?_ (fun j1 h => ?_)
  · conv => cbv
    refine den_loop (jetsamlaw15_same_L1 y0 y1) h (fun a2 : Int => ⟨[(0, .sl 8 e_chain_Cand y0), (1, .sl 8 e_chain_Cand y1), (5, .int .i64 (.v a2))], [], []⟩) ?_ (fun _ _ a2 x1 h hb1 hx1 => ?_)
    · intro j0 hj
      conv => cbv
      subst hj
      exact ⟨.same _, .same _, .int _ _ _ rfl, trivial⟩
    unfold jetsamlaw15_same_L1 at h
    conv => cbv
    refine den_br h (fun _ h => ?_) (fun _ h => ?_)
    · conv => cbv
      refine .dup ?_
      conv => cbv
      refine .mk (some []) (by kernel_rfl) ?_
      conv => cbv
      refine den_elem h fun p3 _ h => ?_
      conv => cbv
      refine .mk ?_
      conv => cbv
      refine den_elem h fun p4 _ h => ?_
      conv => cbv
      refine den_br h (fun _ h => ?_) (fun _ h => ?_)
      · conv => cbv
        replace h := den_out h hx1
        cases h
        exact .bool _ _ rfl
      conv => cbv
      refine den_back h hb1 fun j0 hj => ?_
      conv => cbv
      subst hj
      exact ⟨.same _, .same _, .int _ _ _ rfl, trivial⟩
    conv => cbv
    replace h := den_out h hx1
    refine den_join h fun j0 hj => ?_
    conv => cbv
    subst hj
    exact trivial
  unfold jetsamlaw15_same_K1 at h
  conv => cbv
  cases h
  exact .bool _ _ rfl
def T_jetsamlaw15_awake : Tab := [(3, ⟨.int .i64, 1, 8, [.int .i64 (.lit 0)]⟩), (25, ⟨.struct [(0, 23), (3, 4), (4, 3)], 5, 40, [.int .i64 (.lit 0), .int .i64 (.lit 0), .int .i64 (.lit 0), .bool (.lit false), .int .i64 (.lit 0)]⟩), (26, ⟨.slice 45, 1, 24, [.nilsl]⟩), (45, ⟨.struct [(0, 23), (3, 3), (4, 3), (5, 3), (6, 3), (7, 4)], 8, 64, [.int .i64 (.lit 0), .int .i64 (.lit 0), .int .i64 (.lit 0), .int .i64 (.lit 0), .int .i64 (.lit 0), .int .i64 (.lit 0), .int .i64 (.lit 0), .bool (.lit false)]⟩)]
theorem T_jetsamlaw15_awake_ok : TabOk Try.prog T_jetsamlaw15_awake := by
  have h : T_jetsamlaw15_awake = tabOf Try.prog [3, 25, 26, 45] := by kernel_rfl
  rw [h]; exact tabOk_of (by kernel_rfl)
theorem v_jetsamlaw15_awake {r : Bool} (h : jetsamlaw15_awake = some r) : AVal Try.prog [] 8 [] (e_bool r) := by
  refine aval_of (c := ⟨T_jetsamlaw15_awake, [], 33, [], [(25, [.i, .i, .i, .b, .i])]⟩) Try.func8 (by kernel_rfl) rfl rfl rfl T_jetsamlaw15_awake_ok (eqsOk_of (by kernel_rfl)) Try_mixed rfl fun P hP _ => ?_
  unfold jetsamlaw15_awake at h
  conv => cbv
  refine .data ?_
  conv => cbv
  refine den_call (fun r : chain_Guess × (List chain_Cand) × Int => .tup [e_chain_Guess r.1, (e_sl 8 e_chain_Cand) r.2.1, e_i64 r.2.2]) [(e_sl 8 e_chain_Cand) [(⟨(⟨(0 : Int), (0 : Int), (0 : Int)⟩ : api_Params), (10 : Int), (10 : Int), (1 : Int), (0 : Int), false⟩ : chain_Cand), (⟨(⟨(0 : Int), (0 : Int), (0 : Int)⟩ : api_Params), (5 : Int), (15 : Int), (1 : Int), (0 : Int), false⟩ : chain_Cand), (⟨(⟨(0 : Int), (0 : Int), (0 : Int)⟩ : api_Params), (0 : Int), (10 : Int), (0 : Int), (0 : Int), false⟩ : chain_Cand)]] h (fun _ h => hP ▸ v_chain_Best h) (.cons _ _ _ _ (.sls (.cons _ _ _ _ (VEq.of_lepl (.cons _ _ _ _ (.int _ _ _ rfl) (.cons _ _ _ _ (.int _ _ _ rfl) (.cons _ _ _ _ (.int _ _ _ rfl) (.cons _ _ _ _ (.int _ _ _ rfl) (.cons _ _ _ _ (.int _ _ _ rfl) (.cons _ _ _ _ (.int _ _ _ rfl) (.cons _ _ _ _ (.int _ _ _ rfl) (.cons _ _ _ _ (.bool _ _ rfl) .nil)))))))) rfl) (.cons _ _ _ _ (VEq.of_lepl (.cons _ _ _ _ (.int _ _ _ rfl) (.cons _ _ _ _ (.int _ _ _ rfl) (.cons _ _ _ _ (.int _ _ _ rfl) (.cons _ _ _ _ (.int _ _ _ rfl) (.cons _ _ _ _ (.int _ _ _ rfl) (.cons _ _ _ _ (.int _ _ _ rfl) (.cons _ _ _ _ (.int _ _ _ rfl) (.cons _ _ _ _ (.bool _ _ rfl) .nil)))))))) rfl) (.cons _ _ _ _ (VEq.of_lepl (.cons _ _ _ _ (.int _ _ _ rfl) (.cons _ _ _ _ (.int _ _ _ rfl) (.cons _ _ _ _ (.int _ _ _ rfl) (.cons _ _ _ _ (.int _ _ _ rfl) (.cons _ _ _ _ (.int _ _ _ rfl) (.cons _ _ _ _ (.int _ _ _ rfl) (.cons _ _ _ _ (.int _ _ _ rfl) (.cons _ _ _ _ (.bool _ _ rfl) .nil)))))))) rfl) .nil)))) .nil) rfl rfl (fun _ => rfl) fun r1 _ h => ?_
  conv => cbv
  refine .mk ?_
  conv => cbv
  refine den_cut (r := r) (fun j2 : Bool => ⟨[(0, .bool (.v j2))], [], []⟩) jetsamlaw15_awake_K1 ?_ (fun j2 h => ?_)
  · conv => cbv
    refine .mk (some []) (by kernel_rfl) ?_
    conv => cbv
    refine .mk ?_
    conv => cbv
    refine .mk ?_
    conv => cbv
    refine den_br h (fun _ h => ?_) (fun _ h => ?_)
    · conv => cbv
      refine .data ?_
      conv => cbv
      refine den_call e_bool [(e_sl 8 e_chain_Cand) r1.2.1, (e_sl 8 e_chain_Cand) [(⟨(⟨(0 : Int), (0 : Int), (0 : Int)⟩ : api_Params), (0 : Int), (10 : Int), (0 : Int), (0 : Int), false⟩ : chain_Cand), (⟨(⟨(0 : Int), (0 : Int), (0 : Int)⟩ : api_Params), (10 : Int), (10 : Int), (1 : Int), (0 : Int), false⟩ : chain_Cand)]] h (fun _ h => hP ▸ v_jetsamlaw15_same h) (.cons _ _ _ _ (.same _) (.cons _ _ _ _ (.sls (.cons _ _ _ _ (VEq.of_lepl (.cons _ _ _ _ (.int _ _ _ rfl) (.cons _ _ _ _ (.int _ _ _ rfl) (.cons _ _ _ _ (.int _ _ _ rfl) (.cons _ _ _ _ (.int _ _ _ rfl) (.cons _ _ _ _ (.int _ _ _ rfl) (.cons _ _ _ _ (.int _ _ _ rfl) (.cons _ _ _ _ (.int _ _ _ rfl) (.cons _ _ _ _ (.bool _ _ rfl) .nil)))))))) rfl) (.cons _ _ _ _ (VEq.of_lepl (.cons _ _ _ _ (.int _ _ _ rfl) (.cons _ _ _ _ (.int _ _ _ rfl) (.cons _ _ _ _ (.int _ _ _ rfl) (.cons _ _ _ _ (.int _ _ _ rfl) (.cons _ _ _ _ (.int _ _ _ rfl) (.cons _ _ _ _ (.int _ _ _ rfl) (.cons _ _ _ _ (.int _ _ _ rfl) (.cons _ _ _ _ (.bool _ _ rfl) .nil)))))))) rfl) .nil))) .nil)) rfl rfl (fun _ => rfl) fun r3 _ h => ?_
      conv => cbv
      refine .mk ?_
      conv => cbv
      refine den_join h fun j0 hj => ?_
      conv => cbv
      subst hj
      exact ⟨.bool _ _ rfl, trivial⟩
    conv => cbv
    refine .mk ?_
    conv => cbv
    refine den_join h fun j0 hj => ?_
    conv => cbv
    subst hj
    exact ⟨.bool _ _ rfl, trivial⟩
  unfold jetsamlaw15_awake_K1 at h
  conv => cbv
  cases h
  exact .same _
def T_jetsamlaw15_one : Tab := []
theorem T_jetsamlaw15_one_ok : TabOk Try.prog T_jetsamlaw15_one := by
  have h : T_jetsamlaw15_one = tabOf Try.prog [] := by kernel_rfl
  rw [h]; exact tabOk_of (by kernel_rfl)
theorem v_jetsamlaw15_one {y0 : Bool} {r : Int} (h : jetsamlaw15_one y0 = some r) : AVal Try.prog [] 30 [e_bool y0] (e_i64 r) := by
  refine aval_of (c := ⟨T_jetsamlaw15_one, [], 4, [], []⟩) Try.func30 (by kernel_rfl) rfl rfl rfl T_jetsamlaw15_one_ok (eqsOk_of (by kernel_rfl)) Try_mixed rfl fun P hP _ => ?_
  unfold jetsamlaw15_one at h
  conv => cbv
  refine den_br h (fun _ h => ?_) (fun _ h => ?_)
  · conv => cbv
    cases h
    exact .int _ _ _ rfl
  conv => cbv
  cases h
  exact .int _ _ _ rfl
def T_jetsamlaw15_guess : Tab := [(3, ⟨.int .i64, 1, 8, [.int .i64 (.lit 0)]⟩), (4, ⟨.bool, 1, 1, [.bool (.lit false)]⟩), (23, ⟨.struct [(0, 3), (1, 3), (2, 3)], 3, 24, [.int .i64 (.lit 0), .int .i64 (.lit 0), .int .i64 (.lit 0)]⟩), (25, ⟨.struct [(0, 23), (3, 4), (4, 3)], 5, 40, [.int .i64 (.lit 0), .int .i64 (.lit 0), .int .i64 (.lit 0), .bool (.lit false), .int .i64 (.lit 0)]⟩), (33, ⟨.arr 5 3, 5, 40, [.int .i64 (.lit 0), .int .i64 (.lit 0), .int .i64 (.lit 0), .int .i64 (.lit 0), .int .i64 (.lit 0)]⟩)]
theorem T_jetsamlaw15_guess_ok : TabOk Try.prog T_jetsamlaw15_guess := by
  have h : T_jetsamlaw15_guess = tabOf Try.prog [3, 4, 23, 25, 33] := by kernel_rfl
  rw [h]; exact tabOk_of (by kernel_rfl)
theorem v_jetsamlaw15_guess {y0 : chain_Guess} {r : Nat → Int} (h : jetsamlaw15_guess y0 = some r) : AVal Try.prog [] 11 [e_chain_Guess y0] ((e_arrn 5 e_i64) r) := by
  refine aval_of (c := ⟨T_jetsamlaw15_guess, [], 18, [], []⟩) Try.func11 (by kernel_rfl) rfl rfl rfl T_jetsamlaw15_guess_ok (eqsOk_of (by kernel_rfl)) Try_mixed rfl fun P hP _ => ?_
  unfold jetsamlaw15_guess at h
  conv => cbv
  refine .own ?_
  conv => cbv
  refine .dup ?_
  conv => cbv
  refine .mk (some [2]) (by kernel_rfl) ?_
  conv => cbv
  refine .mk ?_
  conv => cbv
  refine .mk ?_
  conv => cbv
  refine den_call e_i64 [e_bool y0.Variable] h (fun _ h => hP ▸ v_jetsamlaw15_one h) (.cons _ _ _ _ (.same _) .nil) rfl rfl (fun _ => rfl) fun r1 _ h => ?_
  conv => cbv
  cases h
  exact .agg _ _ (.cons _ _ _ _ (.int _ _ _ rfl) (.cons _ _ _ _ (.int _ _ _ rfl) (.cons _ _ _ _ (.int _ _ _ rfl) (.cons _ _ _ _ (.int _ _ _ rfl) (.cons _ _ _ _ (.int _ _ _ rfl) .nil)))))
def T_jetsamlaw15_cand : Tab := [(3, ⟨.int .i64, 1, 8, [.int .i64 (.lit 0)]⟩), (4, ⟨.bool, 1, 1, [.bool (.lit false)]⟩), (23, ⟨.struct [(0, 3), (1, 3), (2, 3)], 3, 24, [.int .i64 (.lit 0), .int .i64 (.lit 0), .int .i64 (.lit 0)]⟩), (45, ⟨.struct [(0, 23), (3, 3), (4, 3), (5, 3), (6, 3), (7, 4)], 8, 64, [.int .i64 (.lit 0), .int .i64 (.lit 0), .int .i64 (.lit 0), .int .i64 (.lit 0), .int .i64 (.lit 0), .int .i64 (.lit 0), .int .i64 (.lit 0), .bool (.lit false)]⟩), (62, ⟨.arr 8 3, 8, 64, [.int .i64 (.lit 0), .int .i64 (.lit 0), .int .i64 (.lit 0), .int .i64 (.lit 0), .int .i64 (.lit 0), .int .i64 (.lit 0), .int .i64 (.lit 0), .int .i64 (.lit 0)]⟩)]
theorem T_jetsamlaw15_cand_ok : TabOk Try.prog T_jetsamlaw15_cand := by
  have h : T_jetsamlaw15_cand = tabOf Try.prog [3, 4, 23, 45, 62] := by kernel_rfl
  rw [h]; exact tabOk_of (by kernel_rfl)
theorem v_jetsamlaw15_cand {y0 : chain_Cand} {r : Nat → Int} (h : jetsamlaw15_cand y0 = some r) : AVal Try.prog [] 31 [e_chain_Cand y0] ((e_arrn 8 e_i64) r) := by
  refine aval_of (c := ⟨T_jetsamlaw15_cand, [], 24, [], []⟩) Try.func31 (by kernel_rfl) rfl rfl rfl T_jetsamlaw15_cand_ok (eqsOk_of (by kernel_rfl)) Try_mixed rfl fun P hP _ => ?_
  unfold jetsamlaw15_cand at h
  conv => cbv
  refine .own ?_
  conv => cbv
  refine .dup ?_
  conv => cbv
  refine .mk (some [2]) (by kernel_rfl) ?_
  conv => cbv
  refine .mk ?_
  conv => cbv
  refine .mk ?_
  conv => cbv
  refine .mk ?_
  conv => cbv
  refine den_call e_i64 [e_bool y0.Variable] h (fun _ h => hP ▸ v_jetsamlaw15_one h) (.cons _ _ _ _ (.same _) .nil) rfl rfl (fun _ => rfl) fun r1 _ h => ?_
  conv => cbv
  cases h
  exact .agg _ _ (.cons _ _ _ _ (.int _ _ _ rfl) (.cons _ _ _ _ (.int _ _ _ rfl) (.cons _ _ _ _ (.int _ _ _ rfl) (.cons _ _ _ _ (.int _ _ _ rfl) (.cons _ _ _ _ (.int _ _ _ rfl) (.cons _ _ _ _ (.int _ _ _ rfl) (.cons _ _ _ _ (.int _ _ _ rfl) (.cons _ _ _ _ (.int _ _ _ rfl) .nil))))))))
def T_jetsamlaw15_cands : Tab := [(26, ⟨.slice 45, 1, 24, [.nilsl]⟩), (30, ⟨.slice 62, 1, 24, [.nilsl]⟩), (45, ⟨.struct [(0, 23), (3, 3), (4, 3), (5, 3), (6, 3), (7, 4)], 8, 64, [.int .i64 (.lit 0), .int .i64 (.lit 0), .int .i64 (.lit 0), .int .i64 (.lit 0), .int .i64 (.lit 0), .int .i64 (.lit 0), .int .i64 (.lit 0), .bool (.lit false)]⟩), (62, ⟨.arr 8 3, 8, 64, [.int .i64 (.lit 0), .int .i64 (.lit 0), .int .i64 (.lit 0), .int .i64 (.lit 0), .int .i64 (.lit 0), .int .i64 (.lit 0), .int .i64 (.lit 0), .int .i64 (.lit 0)]⟩)]
theorem T_jetsamlaw15_cands_ok : TabOk Try.prog T_jetsamlaw15_cands := by
  have h : T_jetsamlaw15_cands = tabOf Try.prog [26, 30, 45, 62] := by kernel_rfl
  rw [h]; exact tabOk_of (by kernel_rfl)
theorem v_jetsamlaw15_cands {y0 : List chain_Cand} {r : List (Nat → Int)} (h : jetsamlaw15_cands y0 = some r) : AVal Try.prog [] 12 [(e_sl 8 e_chain_Cand) y0] ((e_sl 8 (e_arrn 8 e_i64)) r) := by
  refine aval_of (c := ⟨T_jetsamlaw15_cands, [], 20, [], []⟩) Try.func12 (by kernel_rfl) rfl rfl rfl T_jetsamlaw15_cands_ok (eqsOk_of (by kernel_rfl)) Try_mixed rfl fun P hP _ => ?_
  unfold jetsamlaw15_cands at h
  conv => cbv
  refine den_cut (r := r) (fun j1 : (List (Nat → Int)) => ⟨[(3, .osl 1003)], [(1003, .arr false 62 8 (e_arrn 8 e_i64) j1)], []⟩) jetsamlaw15_cands_K1 ?_ (fun j1 h => ?_)
  · conv => cbv
    refine den_loop (jetsamlaw15_cands_L1 y0) h (fun a2 : Int × (List (Nat → Int)) => ⟨[(0, .sl 8 e_chain_Cand y0), (3, .osl 1003), (4, .int .i64 (.v a2.1))], [(1003, .arr false 62 8 (e_arrn 8 e_i64) a2.2)], []⟩) ?_ (fun _ _ a2 x1 h hb1 hx1 => ?_)
    · intro j0 hj
      conv => cbv
      subst hj
      exact ⟨⟨.arr _ _ _ _ _ _ rfl, trivial⟩, .same _, .own _ _ _ _ _ _ rfl rfl, .int _ _ _ rfl, trivial⟩
    unfold jetsamlaw15_cands_L1 at h
    conv => cbv
    refine den_br h (fun _ h => ?_) (fun _ h => ?_)
    · conv => cbv
      refine .mk ?_
      conv => cbv
      refine den_elem h fun p3 _ h => ?_
      conv => cbv
      refine den_call (e_arrn 8 e_i64) [e_chain_Cand p3] h (fun _ h => hP ▸ v_jetsamlaw15_cand h) (.cons _ _ _ _ (.same _) .nil) rfl rfl (fun _ => rfl) fun r4 _ h => ?_
      conv => cbv
      refine .data ?_
      conv => cbv
      refine den_app_own (e_arrn 8 e_i64) (xs := [r4]) h rfl (News.sls (.cons _ _ _ _ (VEq.of_lepl (.cons _ _ _ _ (.same _) (.cons _ _ _ _ (.same _) (.cons _ _ _ _ (.same _) (.cons _ _ _ _ (.same _) (.cons _ _ _ _ (.same _) (.cons _ _ _ _ (.same _) (.cons _ _ _ _ (.same _) (.cons _ _ _ _ (.same _) .nil)))))))) rfl) .nil)) fun l5 _ h => ?_
      conv => cbv
      refine den_back h hb1 fun j0 hj => ?_
      conv => cbv
      subst hj
      exact ⟨⟨.arr _ _ _ _ _ _ rfl, trivial⟩, .same _, .same _, .int _ _ _ rfl, trivial⟩
    conv => cbv
    replace h := den_out h hx1
    refine den_join h fun j0 hj => ?_
    conv => cbv
    subst hj
    exact ⟨⟨.arr _ _ _ _ _ _ rfl, trivial⟩, .same _, trivial⟩
  unfold jetsamlaw15_cands_K1 at h
  conv => cbv
  cases h
  exact .same _
def T_jetsamref15_Ahead : Tab := [(3, ⟨.int .i64, 1, 8, [.int .i64 (.lit 0)]⟩), (62, ⟨.arr 8 3, 8, 64, [.int .i64 (.lit 0), .int .i64 (.lit 0), .int .i64 (.lit 0), .int .i64 (.lit 0), .int .i64 (.lit 0), .int .i64 (.lit 0), .int .i64 (.lit 0), .int .i64 (.lit 0)]⟩)]
theorem T_jetsamref15_Ahead_ok : TabOk Try.prog T_jetsamref15_Ahead := by
  have h : T_jetsamref15_Ahead = tabOf Try.prog [3, 62] := by kernel_rfl
  rw [h]; exact tabOk_of (by kernel_rfl)
theorem v_jetsamref15_Ahead {y0 : Nat → Int} {y1 : Nat → Int} {r : Bool} (h : jetsamref15_Ahead y0 y1 = some r) : AVal Try.prog [] 27 [(e_arrn 8 e_i64) y0, (e_arrn 8 e_i64) y1] (e_bool r) := by
  refine aval_of (c := ⟨T_jetsamref15_Ahead, [], 24, [], []⟩) Try.func27 (by kernel_rfl) rfl rfl rfl T_jetsamref15_Ahead_ok (eqsOk_of (by kernel_rfl)) Try_mixed rfl fun P hP _ => ?_
  unfold jetsamref15_Ahead at h
  conv => cbv
  refine .data ?_
  conv => cbv
  refine .data ?_
  conv => cbv
  refine den_cut (r := r) (fun j1 : Unit => ⟨[], [], []⟩) jetsamref15_Ahead_K1 ?_ (fun j1 h => ?_)
  · conv => cbv
    refine den_loop (jetsamref15_Ahead_L1 y0 y1) h (fun a2 : Int => ⟨[(2, .rptr [.int .i64 (.v (y0 0)), .int .i64 (.v (y0 1)), .int .i64 (.v (y0 2)), .int .i64 (.v (y0 3)), .int .i64 (.v (y0 4)), .int .i64 (.v (y0 5)), .int .i64 (.v (y0 6)), .int .i64 (.v (y0 7))]), (3, .rptr [.int .i64 (.v (y1 0)), .int .i64 (.v (y1 1)), .int .i64 (.v (y1 2)), .int .i64 (.v (y1 3)), .int .i64 (.v (y1 4)), .int .i64 (.v (y1 5)), .int .i64 (.v (y1 6)), .int .i64 (.v (y1 7))]), (5, .int .i64 (.v a2))], [], []⟩) ?_ (fun _ _ a2 x1 h hb1 hx1 => ?_)
    · intro j0 hj
      conv => cbv
      subst hj
      exact ⟨.same _, .same _, .int _ _ _ rfl, trivial⟩
    unfold jetsamref15_Ahead_L1 at h
    conv => cbv
    refine den_br h (fun _ h => ?_) (fun _ h => ?_)
    · conv => cbv
      refine .dup ?_
      conv => cbv
      refine .mk (some []) (by kernel_rfl) ?_
      conv => cbv
      refine den_elemV (f := e_i64) (.cons _ _ _ _ (VEq.of_lepl (.cons _ _ _ _ (.same _) .nil) rfl) (.cons _ _ _ _ (VEq.of_lepl (.cons _ _ _ _ (.same _) .nil) rfl) (.cons _ _ _ _ (VEq.of_lepl (.cons _ _ _ _ (.same _) .nil) rfl) (.cons _ _ _ _ (VEq.of_lepl (.cons _ _ _ _ (.same _) .nil) rfl) (.cons _ _ _ _ (VEq.of_lepl (.cons _ _ _ _ (.same _) .nil) rfl) (.cons _ _ _ _ (VEq.of_lepl (.cons _ _ _ _ (.same _) .nil) rfl) (.cons _ _ _ _ (VEq.of_lepl (.cons _ _ _ _ (.same _) .nil) rfl) (.cons _ _ _ _ (VEq.of_lepl (.cons _ _ _ _ (.same _) .nil) rfl) .nil)))))))) h fun p3 _ h => ?_
      conv => cbv
      refine den_elemV (f := e_i64) (.cons _ _ _ _ (VEq.of_lepl (.cons _ _ _ _ (.same _) .nil) rfl) (.cons _ _ _ _ (VEq.of_lepl (.cons _ _ _ _ (.same _) .nil) rfl) (.cons _ _ _ _ (VEq.of_lepl (.cons _ _ _ _ (.same _) .nil) rfl) (.cons _ _ _ _ (VEq.of_lepl (.cons _ _ _ _ (.same _) .nil) rfl) (.cons _ _ _ _ (VEq.of_lepl (.cons _ _ _ _ (.same _) .nil) rfl) (.cons _ _ _ _ (VEq.of_lepl (.cons _ _ _ _ (.same _) .nil) rfl) (.cons _ _ _ _ (VEq.of_lepl (.cons _ _ _ _ (.same _) .nil) rfl) (.cons _ _ _ _ (VEq.of_lepl (.cons _ _ _ _ (.same _) .nil) rfl) .nil)))))))) h fun p4 _ h => ?_
      conv => cbv
      refine .mk ?_
      conv => cbv
      refine den_br h (fun _ h => ?_) (fun _ h => ?_)
      · conv => cbv
        refine .dup ?_
        conv => cbv
        refine .mk (some []) (by kernel_rfl) ?_
        conv => cbv
        refine den_elemV (f := e_i64) (.cons _ _ _ _ (VEq.of_lepl (.cons _ _ _ _ (.same _) .nil) rfl) (.cons _ _ _ _ (VEq.of_lepl (.cons _ _ _ _ (.same _) .nil) rfl) (.cons _ _ _ _ (VEq.of_lepl (.cons _ _ _ _ (.same _) .nil) rfl) (.cons _ _ _ _ (VEq.of_lepl (.cons _ _ _ _ (.same _) .nil) rfl) (.cons _ _ _ _ (VEq.of_lepl (.cons _ _ _ _ (.same _) .nil) rfl) (.cons _ _ _ _ (VEq.of_lepl (.cons _ _ _ _ (.same _) .nil) rfl) (.cons _ _ _ _ (VEq.of_lepl (.cons _ _ _ _ (.same _) .nil) rfl) (.cons _ _ _ _ (VEq.of_lepl (.cons _ _ _ _ (.same _) .nil) rfl) .nil)))))))) h fun p5 _ h => ?_
        conv => cbv
        refine den_elemV (f := e_i64) (.cons _ _ _ _ (VEq.of_lepl (.cons _ _ _ _ (.same _) .nil) rfl) (.cons _ _ _ _ (VEq.of_lepl (.cons _ _ _ _ (.same _) .nil) rfl) (.cons _ _ _ _ (VEq.of_lepl (.cons _ _ _ _ (.same _) .nil) rfl) (.cons _ _ _ _ (VEq.of_lepl (.cons _ _ _ _ (.same _) .nil) rfl) (.cons _ _ _ _ (VEq.of_lepl (.cons _ _ _ _ (.same _) .nil) rfl) (.cons _ _ _ _ (VEq.of_lepl (.cons _ _ _ _ (.same _) .nil) rfl) (.cons _ _ _ _ (VEq.of_lepl (.cons _ _ _ _ (.same _) .nil) rfl) (.cons _ _ _ _ (VEq.of_lepl (.cons _ _ _ _ (.same _) .nil) rfl) .nil)))))))) h fun p6 _ h => ?_
        conv => cbv
        refine .mk ?_
        conv => cbv
        replace h := den_out h hx1
        cases h
        exact .bool _ _ rfl
      conv => cbv
      refine den_back h hb1 fun j0 hj => ?_
      conv => cbv
      subst hj
      exact ⟨.same _, .same _, .int _ _ _ rfl, trivial⟩
    conv => cbv
    replace h := den_out h hx1
    refine den_join h fun j0 hj => ?_
    conv => cbv
    subst hj
    exact trivial
  unfold jetsamref15_Ahead_K1 at h
  conv => cbv
  cases h
  exact .bool _ _ rfl
def T_jetsamref15_May : Tab := [(3, ⟨.int .i64, 1, 8, [.int .i64 (.lit 0)]⟩), (62, ⟨.arr 8 3, 8, 64, [.int .i64 (.lit 0), .int .i64 (.lit 0), .int .i64 (.lit 0), .int .i64 (.lit 0), .int .i64 (.lit 0), .int .i64 (.lit 0), .int .i64 (.lit 0), .int .i64 (.lit 0)]⟩)]
theorem T_jetsamref15_May_ok : TabOk Try.prog T_jetsamref15_May := by
  have h : T_jetsamref15_May = tabOf Try.prog [3, 62] := by kernel_rfl
  rw [h]; exact tabOk_of (by kernel_rfl)
theorem v_jetsamref15_May {y0 : Nat → Int} {r : Bool} (h : jetsamref15_May y0 = some r) : AVal Try.prog [] 33 [(e_arrn 8 e_i64) y0] (e_bool r) := by
  refine aval_of (c := ⟨T_jetsamref15_May, [], 28, [], []⟩) Try.func33 (by kernel_rfl) rfl rfl rfl T_jetsamref15_May_ok (eqsOk_of (by kernel_rfl)) Try_mixed rfl fun P hP _ => ?_
  unfold jetsamref15_May at h
  conv => cbv
  refine .data ?_
  conv => cbv
  refine den_cut (r := r) (fun j1 : Unit => ⟨[], [], []⟩) jetsamref15_May_K1 ?_ (fun j1 h => ?_)
  · conv => cbv
    refine den_loop (jetsamref15_May_L1 y0) h (fun a2 : Int => ⟨[(1, .rptr [.int .i64 (.v (y0 0)), .int .i64 (.v (y0 1)), .int .i64 (.v (y0 2)), .int .i64 (.v (y0 3)), .int .i64 (.v (y0 4)), .int .i64 (.v (y0 5)), .int .i64 (.v (y0 6)), .int .i64 (.v (y0 7))]), (3, .int .i64 (.v a2))], [], []⟩) ?_ (fun _ _ a2 x1 h hb1 hx1 => ?_)
    · intro j0 hj
      conv => cbv
      subst hj
      exact ⟨.same _, .int _ _ _ rfl, trivial⟩
    unfold jetsamref15_May_L1 at h
    conv => cbv
    refine den_br h (fun _ h => ?_) (fun _ h => ?_)
    · conv => cbv
      refine den_elemV (f := e_i64) (.cons _ _ _ _ (VEq.of_lepl (.cons _ _ _ _ (.same _) .nil) rfl) (.cons _ _ _ _ (VEq.of_lepl (.cons _ _ _ _ (.same _) .nil) rfl) (.cons _ _ _ _ (VEq.of_lepl (.cons _ _ _ _ (.same _) .nil) rfl) (.cons _ _ _ _ (VEq.of_lepl (.cons _ _ _ _ (.same _) .nil) rfl) (.cons _ _ _ _ (VEq.of_lepl (.cons _ _ _ _ (.same _) .nil) rfl) (.cons _ _ _ _ (VEq.of_lepl (.cons _ _ _ _ (.same _) .nil) rfl) (.cons _ _ _ _ (VEq.of_lepl (.cons _ _ _ _ (.same _) .nil) rfl) (.cons _ _ _ _ (VEq.of_lepl (.cons _ _ _ _ (.same _) .nil) rfl) .nil)))))))) h fun p3 _ h => ?_
      conv => cbv
      refine .mk ?_
      conv => cbv
      refine den_br h (fun _ h => ?_) (fun _ h => ?_)
      · conv => cbv
        refine .mk ?_
        conv => cbv
        refine .mk ?_
        conv => cbv
        replace h := den_out h hx1
        cases h
        exact .bool _ _ rfl
      conv => cbv
      refine den_elemV (f := e_i64) (.cons _ _ _ _ (VEq.of_lepl (.cons _ _ _ _ (.same _) .nil) rfl) (.cons _ _ _ _ (VEq.of_lepl (.cons _ _ _ _ (.same _) .nil) rfl) (.cons _ _ _ _ (VEq.of_lepl (.cons _ _ _ _ (.same _) .nil) rfl) (.cons _ _ _ _ (VEq.of_lepl (.cons _ _ _ _ (.same _) .nil) rfl) (.cons _ _ _ _ (VEq.of_lepl (.cons _ _ _ _ (.same _) .nil) rfl) (.cons _ _ _ _ (VEq.of_lepl (.cons _ _ _ _ (.same _) .nil) rfl) (.cons _ _ _ _ (VEq.of_lepl (.cons _ _ _ _ (.same _) .nil) rfl) (.cons _ _ _ _ (VEq.of_lepl (.cons _ _ _ _ (.same _) .nil) rfl) .nil)))))))) h fun p4 _ h => ?_
      conv => cbv
      refine .mk ?_
      conv => cbv
      refine .mk ?_
      conv => cbv
      refine den_br h (fun _ h => ?_) (fun _ h => ?_)
      · conv => cbv
        replace h := den_out h hx1
        cases h
        exact .bool _ _ rfl
      conv => cbv
      refine den_br h (fun _ h => ?_) (fun _ h => ?_)
      · conv => cbv
        refine den_elemV (f := e_i64) (.cons _ _ _ _ (VEq.of_lepl (.cons _ _ _ _ (.same _) .nil) rfl) (.cons _ _ _ _ (VEq.of_lepl (.cons _ _ _ _ (.same _) .nil) rfl) (.cons _ _ _ _ (VEq.of_lepl (.cons _ _ _ _ (.same _) .nil) rfl) (.cons _ _ _ _ (VEq.of_lepl (.cons _ _ _ _ (.same _) .nil) rfl) (.cons _ _ _ _ (VEq.of_lepl (.cons _ _ _ _ (.same _) .nil) rfl) (.cons _ _ _ _ (VEq.of_lepl (.cons _ _ _ _ (.same _) .nil) rfl) (.cons _ _ _ _ (VEq.of_lepl (.cons _ _ _ _ (.same _) .nil) rfl) (.cons _ _ _ _ (VEq.of_lepl (.cons _ _ _ _ (.same _) .nil) rfl) .nil)))))))) h fun p5 _ h => ?_
        conv => cbv
        refine den_br h (fun _ h => ?_) (fun _ h => ?_)
        · conv => cbv
          replace h := den_out h hx1
          cases h
          exact .bool _ _ rfl
        conv => cbv
        refine den_back h hb1 fun j0 hj => ?_
        conv => cbv
        subst hj
        exact ⟨.same _, .int _ _ _ rfl, trivial⟩
      conv => cbv
      refine den_back h hb1 fun j0 hj => ?_
      conv => cbv
      subst hj
      exact ⟨.same _, .int _ _ _ rfl, trivial⟩
    conv => cbv
    replace h := den_out h hx1
    refine den_join h fun j0 hj => ?_
    conv => cbv
    subst hj
    exact trivial
  unfold jetsamref15_May_K1 at h
  conv => cbv
  cases h
  exact .bool _ _ rfl
def T_jetsamref15_Fits : Tab := [(3, ⟨.int .i64, 1, 8, [.int .i64 (.lit 0)]⟩), (33, ⟨.arr 5 3, 5, 40, [.int .i64 (.lit 0), .int .i64 (.lit 0), .int .i64 (.lit 0), .int .i64 (.lit 0), .int .i64 (.lit 0)]⟩), (62, ⟨.arr 8 3, 8, 64, [.int .i64 (.lit 0), .int .i64 (.lit 0), .int .i64 (.lit 0), .int .i64 (.lit 0), .int .i64 (.lit 0), .int .i64 (.lit 0), .int .i64 (.lit 0), .int .i64 (.lit 0)]⟩)]
theorem T_jetsamref15_Fits_ok : TabOk Try.prog T_jetsamref15_Fits := by
  have h : T_jetsamref15_Fits = tabOf Try.prog [3, 33, 62] := by kernel_rfl
  rw [h]; exact tabOk_of (by kernel_rfl)
theorem v_jetsamref15_Fits {y0 : Nat → Int} {y1 : Nat → Int} {y2 : Bool} {r : Bool} (h : jetsamref15_Fits y0 y1 y2 = some r) : AVal Try.prog [] 43 [(e_arrn 5 e_i64) y0, (e_arrn 8 e_i64) y1, e_bool y2] (e_bool r) := by
  refine aval_of (c := ⟨T_jetsamref15_Fits, [], 53, [], []⟩) Try.func43 (by kernel_rfl) rfl rfl rfl T_jetsamref15_Fits_ok (eqsOk_of (by kernel_rfl)) Try_mixed rfl fun P hP _ => ?_
  unfold jetsamref15_Fits at h
  conv => cbv
  refine .data ?_
  conv => cbv
  refine .data ?_
  conv => cbv
  refine .mk ?_
  conv => cbv
  refine den_br h (fun _ h => ?_) (fun _ h => ?_)
  · conv => cbv
    refine .mk ?_
    conv => cbv
    refine .mk ?_
    conv => cbv
    refine .mk ?_
    conv => cbv
    cases h
    exact .bool _ _ rfl
  conv => cbv
  refine .mk ?_
  conv => cbv
  refine den_br h (fun _ h => ?_) (fun _ h => ?_)
  · conv => cbv
    refine .mk ?_
    conv => cbv
    refine .mk ?_
    conv => cbv
    cases h
    exact .bool _ _ rfl
  conv => cbv
  refine .mk ?_
  conv => cbv
  refine .mk ?_
  conv => cbv
  refine den_br h (fun _ h => ?_) (fun _ h => ?_)
  · conv => cbv
    cases h
    exact .bool _ _ rfl
  conv => cbv
  refine den_br h (fun _ h => ?_) (fun _ h => ?_)
  · conv => cbv
    cases h
    exact .bool _ _ rfl
  conv => cbv
  refine .mk ?_
  conv => cbv
  refine den_br h (fun _ h => ?_) (fun _ h => ?_)
  · conv => cbv
    refine .mk ?_
    conv => cbv
    refine .mk ?_
    conv => cbv
    cases h
    exact .bool _ _ rfl
  conv => cbv
  refine .mk ?_
  conv => cbv
  refine den_br h (fun _ h => ?_) (fun _ h => ?_)
  · conv => cbv
    refine .mk ?_
    conv => cbv
    cases h
    exact .bool _ _ rfl
  conv => cbv
  refine den_br h (fun _ h => ?_) (fun _ h => ?_)
  · conv => cbv
    refine .mk ?_
    conv => cbv
    cases h
    exact .bool _ _ rfl
  conv => cbv
  refine .mk ?_
  conv => cbv
  cases h
  exact .bool _ _ rfl
def T_jetsamref15_Follows : Tab := [(3, ⟨.int .i64, 1, 8, [.int .i64 (.lit 0)]⟩), (62, ⟨.arr 8 3, 8, 64, [.int .i64 (.lit 0), .int .i64 (.lit 0), .int .i64 (.lit 0), .int .i64 (.lit 0), .int .i64 (.lit 0), .int .i64 (.lit 0), .int .i64 (.lit 0), .int .i64 (.lit 0)]⟩)]
theorem T_jetsamref15_Follows_ok : TabOk Try.prog T_jetsamref15_Follows := by
  have h : T_jetsamref15_Follows = tabOf Try.prog [3, 62] := by kernel_rfl
  rw [h]; exact tabOk_of (by kernel_rfl)
theorem v_jetsamref15_Follows {y0 : Nat → Int} {y1 : Nat → Int} {r : Bool} (h : jetsamref15_Follows y0 y1 = some r) : AVal Try.prog [] 44 [(e_arrn 8 e_i64) y0, (e_arrn 8 e_i64) y1] (e_bool r) := by
  refine aval_of (c := ⟨T_jetsamref15_Follows, [], 29, [], []⟩) Try.func44 (by kernel_rfl) rfl rfl rfl T_jetsamref15_Follows_ok (eqsOk_of (by kernel_rfl)) Try_mixed rfl fun P hP _ => ?_
  unfold jetsamref15_Follows at h
  conv => cbv
  refine .data ?_
  conv => cbv
  refine .data ?_
  conv => cbv
  refine .mk ?_
  conv => cbv
  refine den_br h (fun _ h => ?_) (fun _ h => ?_)
  · conv => cbv
    cases h
    exact .bool _ _ rfl
  conv => cbv
  refine den_br h (fun _ h => ?_) (fun _ h => ?_)
  · conv => cbv
    refine .mk ?_
    conv => cbv
    cases h
    exact .bool _ _ rfl
  conv => cbv
  refine .mk ?_
  conv => cbv
  cases h
  exact .bool _ _ rfl
def T_jetsamref15_Right : Tab := [(30, ⟨.slice 62, 1, 24, [.nilsl]⟩), (33, ⟨.arr 5 3, 5, 40, [.int .i64 (.lit 0), .int .i64 (.lit 0), .int .i64 (.lit 0), .int .i64 (.lit 0), .int .i64 (.lit 0)]⟩), (62, ⟨.arr 8 3, 8, 64, [.int .i64 (.lit 0), .int .i64 (.lit 0), .int .i64 (.lit 0), .int .i64 (.lit 0), .int .i64 (.lit 0), .int .i64 (.lit 0), .int .i64 (.lit 0), .int .i64 (.lit 0)]⟩)]
theorem T_jetsamref15_Right_ok : TabOk Try.prog T_jetsamref15_Right := by
  have h : T_jetsamref15_Right = tabOf Try.prog [30, 33, 62] := by kernel_rfl
  rw [h]; exact tabOk_of (by kernel_rfl)
theorem v_jetsamref15_Right {y0 : Nat → Int} {y1 : List (Nat → Int)} {r : Bool} (h : jetsamref15_Right y0 y1 = some r) : AVal Try.prog [] 28 [(e_arrn 5 e_i64) y0, (e_sl 8 (e_arrn 8 e_i64)) y1] (e_bool r) := by
  refine aval_of (c := ⟨T_jetsamref15_Right, [], 52, [], []⟩) Try.func28 (by kernel_rfl) rfl rfl rfl T_jetsamref15_Right_ok (eqsOk_of (by kernel_rfl)) Try_mixed rfl fun P hP _ => ?_
  unfold jetsamref15_Right at h
  conv => cbv
  refine .data ?_
  conv => cbv
  refine den_cut (r := r) (fun j1 : Unit => ⟨[(1, .sl 8 (e_arrn 8 e_i64) y1)], [], []⟩) (jetsamref15_Right_K1 y1) ?_ (fun j1 h => ?_)
  · conv => cbv
    refine den_loop (jetsamref15_Right_L1 y0 y1) h (fun a2 : Int => ⟨[(1, .sl 8 (e_arrn 8 e_i64) y1), (2, .rptr [.int .i64 (.v (y0 0)), .int .i64 (.v (y0 1)), .int .i64 (.v (y0 2)), .int .i64 (.v (y0 3)), .int .i64 (.v (y0 4))]), (5, .int .i64 (.v a2))], [], []⟩) ?_ (fun _ _ a2 x1 h hb1 hx1 => ?_)
    · intro j0 hj
      conv => cbv
      subst hj
      exact ⟨.same _, .same _, .int _ _ _ rfl, trivial⟩
    unfold jetsamref15_Right_L1 at h
    conv => cbv
    refine den_br h (fun _ h => ?_) (fun _ h => ?_)
    · conv => cbv
      refine den_cut (r := x1) (fun j3 : Bool => ⟨[(1, .sl 8 (e_arrn 8 e_i64) y1), (2, .rptr [.int .i64 (.v (y0 0)), .int .i64 (.v (y0 1)), .int .i64 (.v (y0 2)), .int .i64 (.v (y0 3)), .int .i64 (.v (y0 4))]), (5, .int .i64 (.v a2)), (48, .bool (.v j3))], [], []⟩) (jetsamref15_Right_K2 a2) ?_ (fun j3 h => ?_)
      · conv => cbv
        refine .mk (some []) (by kernel_rfl) ?_
        conv => cbv
        refine den_elem h fun p4 _ h => ?_
        conv => cbv
        refine den_call e_bool [(e_arrn 8 e_i64) p4] h (fun _ h => hP ▸ v_jetsamref15_May h) (.cons _ _ _ _ (.same _) .nil) rfl rfl (fun _ => rfl) fun r5 _ h => ?_
        conv => cbv
        refine .mk ?_
        conv => cbv
        refine .mk ?_
        conv => cbv
        refine den_br h (fun _ h => ?_) (fun _ h => ?_)
        · conv => cbv
          refine .mk ?_
          conv => cbv
          refine .mk ?_
          conv => cbv
          refine .mk ?_
          conv => cbv
          refine .mk ?_
          conv => cbv
          refine den_join h fun j0 hj => ?_
          conv => cbv
          subst hj
          exact ⟨.same _, .same _, .same _, .bool _ _ rfl, trivial⟩
        conv => cbv
        refine den_elem h fun p6 _ h => ?_
        conv => cbv
        refine .mk ?_
        conv => cbv
        refine den_call e_bool [(e_arrn 5 e_i64) y0, (e_arrn 8 e_i64) p6, e_bool ((W (a2 + 1)) == (y1.length : Int))] h (fun _ h => hP ▸ v_jetsamref15_Fits h) (.cons _ _ _ _ (.same _) (.cons _ _ _ _ (.same _) (.cons _ _ _ _ (.bool _ _ rfl) .nil))) rfl rfl (fun _ => rfl) fun r7 _ h => ?_
        conv => cbv
        refine .mk ?_
        conv => cbv
        refine .mk ?_
        conv => cbv
        refine den_br h (fun _ h => ?_) (fun _ h => ?_)
        · conv => cbv
          refine .mk ?_
          conv => cbv
          refine den_join h fun j0 hj => ?_
          conv => cbv
          subst hj
          exact ⟨.same _, .same _, .same _, .bool _ _ rfl, trivial⟩
        conv => cbv
        refine den_br h (fun _ h => ?_) (fun _ h => ?_)
        · conv => cbv
          refine den_elem h fun p8 _ h => ?_
          conv => cbv
          refine den_elem h fun p9 _ h => ?_
          conv => cbv
          refine den_call e_bool [(e_arrn 8 e_i64) p8, (e_arrn 8 e_i64) p9] h (fun _ h => hP ▸ v_jetsamref15_Follows h) (.cons _ _ _ _ (.same _) (.cons _ _ _ _ (.same _) .nil)) rfl rfl (fun _ => rfl) fun r10 _ h => ?_
          conv => cbv
          refine .mk ?_
          conv => cbv
          refine den_join h fun j0 hj => ?_
          conv => cbv
          subst hj
          exact ⟨.same _, .same _, .same _, .bool _ _ rfl, trivial⟩
        conv => cbv
        refine .mk ?_
        conv => cbv
        refine den_join h fun j0 hj => ?_
        conv => cbv
        subst hj
        exact ⟨.same _, .same _, .same _, .bool _ _ rfl, trivial⟩
      unfold jetsamref15_Right_K2 at h
      conv => cbv
      refine den_br h (fun _ h => ?_) (fun _ h => ?_)
      · conv => cbv
        replace h := den_out h hx1
        cases h
        exact .bool _ _ rfl
      conv => cbv
      refine den_back h hb1 fun j0 hj => ?_
      conv => cbv
      subst hj
      exact ⟨.same _, .same _, .int _ _ _ rfl, trivial⟩
    conv => cbv
    replace h := den_out h hx1
    refine den_join h fun j0 hj => ?_
    conv => cbv
    subst hj
    exact ⟨.same _, trivial⟩
  unfold jetsamref15_Right_K1 at h
  conv => cbv
  cases h
  exact .bool _ _ rfl
def T_jetsamref15_Weight : Tab := [(3, ⟨.int .i64, 1, 8, [.int .i64 (.lit 0)]⟩), (30, ⟨.slice 62, 1, 24, [.nilsl]⟩), (62, ⟨.arr 8 3, 8, 64, [.int .i64 (.lit 0), .int .i64 (.lit 0), .int .i64 (.lit 0), .int .i64 (.lit 0), .int .i64 (.lit 0), .int .i64 (.lit 0), .int .i64 (.lit 0), .int .i64 (.lit 0)]⟩)]
theorem T_jetsamref15_Weight_ok : TabOk Try.prog T_jetsamref15_Weight := by
  have h : T_jetsamref15_Weight = tabOf Try.prog [3, 30, 62] := by kernel_rfl
  rw [h]; exact tabOk_of (by kernel_rfl)
theorem v_jetsamref15_Weight {y0 : List (Nat → Int)} {r : Int} (h : jetsamref15_Weight y0 = some r) : AVal Try.prog [] 14 [(e_sl 8 (e_arrn 8 e_i64)) y0] (e_i64 r) := by
  refine aval_of (c := ⟨T_jetsamref15_Weight, [], 19, [], []⟩) Try.func14 (by kernel_rfl) rfl rfl rfl T_jetsamref15_Weight_ok (eqsOk_of (by kernel_rfl)) Try_mixed rfl fun P hP _ => ?_
  unfold jetsamref15_Weight at h
  conv => cbv
  refine den_cut (r := r) (fun j1 : Int => ⟨[(3, .int .i64 (.v j1))], [], []⟩) jetsamref15_Weight_K1 ?_ (fun j1 h => ?_)
  · conv => cbv
    refine den_loop (jetsamref15_Weight_L1 y0) h (fun a2 : Int × Int => ⟨[(0, .sl 8 (e_arrn 8 e_i64) y0), (3, .int .i64 (.v a2.1)), (4, .int .i64 (.v a2.2))], [], []⟩) ?_ (fun _ _ a2 x1 h hb1 hx1 => ?_)
    · intro j0 hj
      conv => cbv
      subst hj
      exact ⟨.same _, .int _ _ _ rfl, .int _ _ _ rfl, trivial⟩
    unfold jetsamref15_Weight_L1 at h
    conv => cbv
    refine den_br h (fun _ h => ?_) (fun _ h => ?_)
    · conv => cbv
      refine .mk ?_
      conv => cbv
      refine den_elem h fun p3 _ h => ?_
      conv => cbv
      refine den_back h hb1 fun j0 hj => ?_
      conv => cbv
      subst hj
      exact ⟨.same _, .int _ _ _ rfl, .int _ _ _ rfl, trivial⟩
    conv => cbv
    replace h := den_out h hx1
    refine den_join h fun j0 hj => ?_
    conv => cbv
    subst hj
    exact ⟨.int _ _ _ rfl, trivial⟩
  unfold jetsamref15_Weight_K1 at h
  conv => cbv
  cases h
  exact .same _
def T_jetsamref15_less : Tab := [(30, ⟨.slice 62, 1, 24, [.nilsl]⟩), (62, ⟨.arr 8 3, 8, 64, [.int .i64 (.lit 0), .int .i64 (.lit 0), .int .i64 (.lit 0), .int .i64 (.lit 0), .int .i64 (.lit 0), .int .i64 (.lit 0), .int .i64 (.lit 0), .int .i64 (.lit 0)]⟩)]
theorem T_jetsamref15_less_ok : TabOk Try.prog T_jetsamref15_less := by
  have h : T_jetsamref15_less = tabOf Try.prog [30, 62] := by kernel_rfl
  rw [h]; exact tabOk_of (by kernel_rfl)
theorem v_jetsamref15_less {y0 : List (Nat → Int)} {y1 : List (Nat → Int)} {r : Bool} (h : jetsamref15_less y0 y1 = some r) : AVal Try.prog [] 29 [(e_sl 8 (e_arrn 8 e_i64)) y0, (e_sl 8 (e_arrn 8 e_i64)) y1] (e_bool r) := by
  refine aval_of (c := ⟨T_jetsamref15_less, [], 46, [], [(62, [.i, .i, .i, .i, .i, .i, .i, .i])]⟩) Try.func29 (by kernel_rfl) rfl rfl rfl T_jetsamref15_less_ok (eqsOk_of (by kernel_rfl)) Try_mixed rfl fun P hP _ => ?_
  unfold jetsamref15_less at h
  conv => cbv
  refine den_call e_i64 [(e_sl 8 (e_arrn 8 e_i64)) y0] h (fun _ h => hP ▸ v_jetsamref15_Weight h) (.cons _ _ _ _ (.same _) .nil) rfl rfl (fun _ => rfl) fun r1 _ h => ?_
  conv => cbv
  refine den_call e_i64 [(e_sl 8 (e_arrn 8 e_i64)) y1] h (fun _ h => hP ▸ v_jetsamref15_Weight h) (.cons _ _ _ _ (.same _) .nil) rfl rfl (fun _ => rfl) fun r2 _ h => ?_
  conv => cbv
  refine den_br h (fun _ h => ?_) (fun _ h => ?_)
  · conv => cbv
    refine .mk ?_
    conv => cbv
    refine den_call e_i64 [(e_sl 8 (e_arrn 8 e_i64)) y0] h (fun _ h => hP ▸ v_jetsamref15_Weight h) (.cons _ _ _ _ (.same _) .nil) rfl rfl (fun _ => rfl) fun r3 _ h => ?_
    conv => cbv
    refine den_call e_i64 [(e_sl 8 (e_arrn 8 e_i64)) y1] h (fun _ h => hP ▸ v_jetsamref15_Weight h) (.cons _ _ _ _ (.same _) .nil) rfl rfl (fun _ => rfl) fun r4 _ h => ?_
    conv => cbv
    cases h
    exact .bool _ _ rfl
  conv => cbv
  refine den_cut (r := r) (fun j5 : Unit => ⟨[], [], []⟩) jetsamref15_less_K1 ?_ (fun j5 h => ?_)
  · conv => cbv
    refine den_loop (jetsamref15_less_L1 y0 y1) h (fun a6 : Int => ⟨[(0, .sl 8 (e_arrn 8 e_i64) y0), (1, .sl 8 (e_arrn 8 e_i64) y1), (5, .int .i64 (.v a6))], [], []⟩) ?_ (fun _ _ a6 x1 h hb1 hx1 => ?_)
    · intro j0 hj
      conv => cbv
      subst hj
      exact ⟨.same _, .same _, .int _ _ _ rfl, trivial⟩
    unfold jetsamref15_less_L1 at h
    conv => cbv
    refine .mk ?_
    conv => cbv
    refine den_br h (fun _ h => ?_) (fun _ h => ?_)
    · conv => cbv
      refine .dup ?_
      conv => cbv
      refine .mk (some []) (by kernel_rfl) ?_
      conv => cbv
      refine den_elem h fun p7 _ h => ?_
      conv => cbv
      refine .mk ?_
      conv => cbv
      refine den_elem h fun p8 _ h => ?_
      conv => cbv
      refine den_br h (fun _ h => ?_) (fun _ h => ?_)
      · conv => cbv
        refine .dup ?_
        conv => cbv
        refine .mk (some []) (by kernel_rfl) ?_
        conv => cbv
        refine den_elem h fun p9 _ h => ?_
        conv => cbv
        refine .mk ?_
        conv => cbv
        refine den_elem h fun p10 _ h => ?_
        conv => cbv
        refine den_call e_bool [(e_arrn 8 e_i64) p9, (e_arrn 8 e_i64) p10] h (fun _ h => hP ▸ v_jetsamref15_Ahead h) (.cons _ _ _ _ (.same _) (.cons _ _ _ _ (.same _) .nil)) rfl rfl (fun _ => rfl) fun r11 _ h => ?_
        conv => cbv
        replace h := den_out h hx1
        cases h
        exact .same _
      conv => cbv
      refine den_back h hb1 fun j0 hj => ?_
      conv => cbv
      subst hj
      exact ⟨.same _, .same _, .int _ _ _ rfl, trivial⟩
    conv => cbv
    replace h := den_out h hx1
    refine den_join h fun j0 hj => ?_
    conv => cbv
    subst hj
    exact trivial
  unfold jetsamref15_less_K1 at h
  conv => cbv
  cases h
  exact .bool _ _ rfl
def T_jetsamref15_Heaviest : Tab := [(30, ⟨.slice 62, 1, 24, [.nilsl]⟩), (33, ⟨.arr 5 3, 5, 40, [.int .i64 (.lit 0), .int .i64 (.lit 0), .int .i64 (.lit 0), .int .i64 (.lit 0), .int .i64 (.lit 0)]⟩), (62, ⟨.arr 8 3, 8, 64, [.int .i64 (.lit 0), .int .i64 (.lit 0), .int .i64 (.lit 0), .int .i64 (.lit 0), .int .i64 (.lit 0), .int .i64 (.lit 0), .int .i64 (.lit 0), .int .i64 (.lit 0)]⟩)]
theorem T_jetsamref15_Heaviest_ok : TabOk Try.prog T_jetsamref15_Heaviest := by
  have h : T_jetsamref15_Heaviest = tabOf Try.prog [30, 33, 62] := by kernel_rfl
  rw [h]; exact tabOk_of (by kernel_rfl)
set_option maxHeartbeats 2000000 in
theorem v_jetsamref15_Heaviest {y0 : Nat → Int} {y1 : List (Nat → Int)} {r : List (Nat → Int)} (h : jetsamref15_Heaviest y0 y1 = some r) : AVal Try.prog [] 10 [(e_arrn 5 e_i64) y0, (e_sl 8 (e_arrn 8 e_i64)) y1] ((e_sl 8 (e_arrn 8 e_i64)) r) := by
  refine aval_of (c := ⟨T_jetsamref15_Heaviest, [], 108, [], [(62, [.i, .i, .i, .i, .i, .i, .i, .i])]⟩) Try.func10 (by kernel_rfl) rfl rfl rfl T_jetsamref15_Heaviest_ok (eqsOk_of (by kernel_rfl)) Try_mixed rfl fun P hP _ => ?_
  unfold jetsamref15_Heaviest at h
  conv => cbv
  refine .data ?_
  conv => cbv
  refine den_cut (r := r) (fun j1 : (List (Nat → Int)) => ⟨[(2, .rptr [.int .i64 (.v (y0 0)), .int .i64 (.v (y0 1)), .int .i64 (.v (y0 2)), .int .i64 (.v (y0 3)), .int .i64 (.v (y0 4))]), (5, .osl 1008)], [(1008, .arr false 62 8 (e_arrn 8 e_i64) j1)], []⟩) (jetsamref15_Heaviest_K1 y0) ?_ (fun j1 h => ?_)
  · conv => cbv
    refine den_loop (jetsamref15_Heaviest_L3 y0 y1) h (fun a12 : Int × (List (Nat → Int)) => ⟨[(1, .sl 8 (e_arrn 8 e_i64) y1), (2, .rptr [.int .i64 (.v (y0 0)), .int .i64 (.v (y0 1)), .int .i64 (.v (y0 2)), .int .i64 (.v (y0 3)), .int .i64 (.v (y0 4))]), (5, .osl 1008), (6, .int .i64 (.v a12.1))], [(1008, .arr false 62 8 (e_arrn 8 e_i64) a12.2)], []⟩) ?_ (fun _ _ a12 x1 h hb1 hx1 => ?_)
    · intro j0 hj
      conv => cbv
      subst hj
      exact ⟨⟨.arr _ _ _ _ _ _ rfl, trivial⟩, .same _, .same _, .own _ _ _ _ _ _ rfl rfl, .int _ _ _ rfl, trivial⟩
    unfold jetsamref15_Heaviest_L3 at h
    conv => cbv
    refine den_br h (fun _ h => ?_) (fun _ h => ?_)
    · conv => cbv
      refine den_cut (r := x1) (fun j13 : (List (Nat → Int)) => ⟨[(1, .sl 8 (e_arrn 8 e_i64) y1), (2, .rptr [.int .i64 (.v (y0 0)), .int .i64 (.v (y0 1)), .int .i64 (.v (y0 2)), .int .i64 (.v (y0 3)), .int .i64 (.v (y0 4))]), (5, .osl 1008), (6, .int .i64 (.v a12.1))], [(1008, .arr false 62 8 (e_arrn 8 e_i64) j13)], []⟩) (jetsamref15_Heaviest_K6 a12) ?_ (fun j13 h => ?_)
      · conv => cbv
        refine den_cut (r := x1) (fun j14 : Int => ⟨[(1, .sl 8 (e_arrn 8 e_i64) y1), (2, .rptr [.int .i64 (.v (y0 0)), .int .i64 (.v (y0 1)), .int .i64 (.v (y0 2)), .int .i64 (.v (y0 3)), .int .i64 (.v (y0 4))]), (5, .osl 1008), (6, .int .i64 (.v a12.1)), (7, .int .i64 (.v j14))], [(1008, .arr false 62 8 (e_arrn 8 e_i64) a12.2)], []⟩) (jetsamref15_Heaviest_K7 y1 a12) ?_ (fun j14 h => ?_)
        · conv => cbv
          refine den_loop (jetsamref15_Heaviest_L4 y1 a12) h (fun a24 : Int => ⟨[(1, .sl 8 (e_arrn 8 e_i64) y1), (2, .rptr [.int .i64 (.v (y0 0)), .int .i64 (.v (y0 1)), .int .i64 (.v (y0 2)), .int .i64 (.v (y0 3)), .int .i64 (.v (y0 4))]), (5, .osl 1008), (6, .int .i64 (.v a12.1)), (7, .int .i64 (.v a24))], [(1008, .arr false 62 8 (e_arrn 8 e_i64) a12.2)], []⟩) ?_ (fun _ _ a24 x2 h hb2 hx2 => ?_)
          · intro j0 hj
            conv => cbv
            subst hj
            exact ⟨⟨.same _, trivial⟩, .same _, .same _, .same _, .same _, .int _ _ _ rfl, trivial⟩
          unfold jetsamref15_Heaviest_L4 at h
          conv => cbv
          refine den_cut (r := x2) (fun j25 : Bool => ⟨[(1, .sl 8 (e_arrn 8 e_i64) y1), (2, .rptr [.int .i64 (.v (y0 0)), .int .i64 (.v (y0 1)), .int .i64 (.v (y0 2)), .int .i64 (.v (y0 3)), .int .i64 (.v (y0 4))]), (5, .osl 1008), (6, .int .i64 (.v a12.1)), (7, .int .i64 (.v a24)), (33, .bool (.v j25))], [(1008, .arr false 62 8 (e_arrn 8 e_i64) a12.2)], []⟩) (jetsamref15_Heaviest_K9 y1 a12 a24) ?_ (fun j25 h => ?_)
          · conv => cbv
            refine .mk (some []) (by kernel_rfl) ?_
            conv => cbv
            refine .mk ?_
            conv => cbv
            refine den_br h (fun _ h => ?_) (fun _ h => ?_)
            · conv => cbv
              refine den_chk h fun h => ?_
              conv => cbv
              refine den_chk h fun h => ?_
              conv => cbv
              refine den_eload h fun p26 _ h => ?_
              conv => cbv
              refine .mk ?_
              conv => cbv
              refine den_elem h fun p27 _ h => ?_
              conv => cbv
              refine den_call e_bool [(e_arrn 8 e_i64) p26, (e_arrn 8 e_i64) p27] h (fun _ h => hP ▸ v_jetsamref15_Ahead h) (.cons _ _ _ _ (.same _) (.cons _ _ _ _ (.same _) .nil)) rfl rfl (fun _ => rfl) fun r28 _ h => ?_
              conv => cbv
              refine den_join h fun j0 hj => ?_
              conv => cbv
              subst hj
              exact ⟨⟨.same _, trivial⟩, .same _, .same _, .same _, .same _, .same _, .bool _ _ rfl, trivial⟩
            conv => cbv
            refine .mk ?_
            conv => cbv
            refine den_join h fun j0 hj => ?_
            conv => cbv
            subst hj
            exact ⟨⟨.same _, trivial⟩, .same _, .same _, .same _, .same _, .same _, .bool _ _ rfl, trivial⟩
          unfold jetsamref15_Heaviest_K9 at h
          conv => cbv
          refine den_br h (fun _ h => ?_) (fun _ h => ?_)
          · conv => cbv
            refine den_back h hb2 fun j0 hj => ?_
            conv => cbv
            subst hj
            exact ⟨⟨.same _, trivial⟩, .same _, .same _, .same _, .same _, .int _ _ _ rfl, trivial⟩
          conv => cbv
          replace h := den_out h hx2
          refine den_join h fun j0 hj => ?_
          conv => cbv
          subst hj
          exact ⟨⟨.same _, trivial⟩, .same _, .same _, .same _, .same _, .int _ _ _ rfl, trivial⟩
        unfold jetsamref15_Heaviest_K7 at h
        conv => cbv
        refine den_cut (r := x1) (fun j15 : Bool => ⟨[(1, .sl 8 (e_arrn 8 e_i64) y1), (2, .rptr [.int .i64 (.v (y0 0)), .int .i64 (.v (y0 1)), .int .i64 (.v (y0 2)), .int .i64 (.v (y0 3)), .int .i64 (.v (y0 4))]), (5, .osl 1008), (6, .int .i64 (.v a12.1)), (7, .int .i64 (.v j14)), (50, .bool (.v j15))], [(1008, .arr false 62 8 (e_arrn 8 e_i64) a12.2)], []⟩) (jetsamref15_Heaviest_K8 y1 a12 j14) ?_ (fun j15 h => ?_)
        · conv => cbv
          refine .mk (some []) (by kernel_rfl) ?_
          conv => cbv
          refine .mk ?_
          conv => cbv
          refine den_br h (fun _ h => ?_) (fun _ h => ?_)
          · conv => cbv
            refine den_chk h fun h => ?_
            conv => cbv
            refine den_chk h fun h => ?_
            conv => cbv
            refine den_eload h fun p22 _ h => ?_
            conv => cbv
            refine .mk ?_
            conv => cbv
            refine den_elem h fun p23 _ h => ?_
            conv => cbv
            refine den_join h fun j0 hj => ?_
            conv => cbv
            subst hj
            exact ⟨⟨.same _, trivial⟩, .same _, .same _, .same _, .same _, .same _, .bool _ _ rfl, trivial⟩
          conv => cbv
          refine .mk ?_
          conv => cbv
          refine den_join h fun j0 hj => ?_
          conv => cbv
          subst hj
          exact ⟨⟨.same _, trivial⟩, .same _, .same _, .same _, .same _, .same _, .bool _ _ rfl, trivial⟩
        unfold jetsamref15_Heaviest_K8 at h
        conv => cbv
        refine den_br h (fun _ h => ?_) (fun _ h => ?_)
        · conv => cbv
          refine den_join h fun j0 hj => ?_
          conv => cbv
          subst hj
          exact ⟨⟨.arr _ _ _ _ _ _ rfl, trivial⟩, .same _, .same _, .same _, .same _, trivial⟩
        conv => cbv
        refine .mk ?_
        conv => cbv
        refine den_subo_f h fun l16 _ h => ?_
        conv => cbv
        refine den_app_nil 1008 (e_arrn 8 e_i64) (xs := l16) h (News.map rfl) fun l17 _ h => ?_
        conv => cbv
        refine .mk ?_
        conv => cbv
        refine den_elem h fun p18 _ h => ?_
        conv => cbv
        refine .data ?_
        conv => cbv
        refine den_app_own (e_arrn 8 e_i64) (xs := [p18]) h rfl (News.sls (.cons _ _ _ _ (VEq.of_lepl (.cons _ _ _ _ (.same _) (.cons _ _ _ _ (.same _) (.cons _ _ _ _ (.same _) (.cons _ _ _ _ (.same _) (.cons _ _ _ _ (.same _) (.cons _ _ _ _ (.same _) (.cons _ _ _ _ (.same _) (.cons _ _ _ _ (.same _) .nil)))))))) rfl) .nil)) fun l19 _ h => ?_
        conv => cbv
        refine .mk ?_
        conv => cbv
        refine den_sub h fun l20 _ h => ?_
        conv => cbv
        refine den_app_own (e_arrn 8 e_i64) (xs := l20) h rfl (News.map rfl) fun l21 _ h => ?_
        conv => cbv
        refine den_join h fun j0 hj => ?_
        conv => cbv
        subst hj
        exact ⟨⟨.arr _ _ _ _ _ _ rfl, trivial⟩, .same _, .same _, .same _, .same _, trivial⟩
      unfold jetsamref15_Heaviest_K6 at h
      conv => cbv
      refine den_back h hb1 fun j0 hj => ?_
      conv => cbv
      subst hj
      exact ⟨⟨.arr _ _ _ _ _ _ rfl, trivial⟩, .same _, .same _, .same _, .int _ _ _ rfl, trivial⟩
    conv => cbv
    replace h := den_out h hx1
    refine den_join h fun j0 hj => ?_
    conv => cbv
    subst hj
    exact ⟨⟨.arr _ _ _ _ _ _ rfl, trivial⟩, .same _, .same _, trivial⟩
  unfold jetsamref15_Heaviest_K1 at h
  conv => cbv
  refine den_cut (r := r) (fun j2 : (List (Nat → Int)) => ⟨[(9, .sl 8 (e_arrn 8 e_i64) j2)], [], []⟩) jetsamref15_Heaviest_K2 ?_ (fun j2 h => ?_)
  · conv => cbv
    refine den_loop (jetsamref15_Heaviest_L1 y0 j1) h (fun a3 : (List (Nat → Int)) × Int => ⟨[(2, .rptr [.int .i64 (.v (y0 0)), .int .i64 (.v (y0 1)), .int .i64 (.v (y0 2)), .int .i64 (.v (y0 3)), .int .i64 (.v (y0 4))]), (5, .osl 1008), (9, .sl 8 (e_arrn 8 e_i64) a3.1), (10, .int .i64 (.v a3.2))], [(1008, .arr false 62 8 (e_arrn 8 e_i64) j1)], []⟩) ?_ (fun _ _ a3 x1 h hb1 hx1 => ?_)
    · intro j0 hj
      conv => cbv
      subst hj
      exact ⟨⟨.same _, trivial⟩, .same _, .same _, .nil _ _ _ rfl, .int _ _ _ rfl, trivial⟩
    unfold jetsamref15_Heaviest_L1 at h
    conv => cbv
    refine den_br h (fun _ h => ?_) (fun _ h => ?_)
    · conv => cbv
      refine den_cut (r := x1) (fun j4 : (List (Nat → Int)) => ⟨[(2, .rptr [.int .i64 (.v (y0 0)), .int .i64 (.v (y0 1)), .int .i64 (.v (y0 2)), .int .i64 (.v (y0 3)), .int .i64 (.v (y0 4))]), (5, .osl 1008), (9, .sl 8 (e_arrn 8 e_i64) j4), (10, .int .i64 (.v a3.2))], [(1008, .arr false 62 8 (e_arrn 8 e_i64) j1)], []⟩) (jetsamref15_Heaviest_K3 a3) ?_ (fun j4 h => ?_)
      · conv => cbv
        refine den_cut (r := x1) (fun j5 : (List (Nat → Int)) => ⟨[(2, .rptr [.int .i64 (.v (y0 0)), .int .i64 (.v (y0 1)), .int .i64 (.v (y0 2)), .int .i64 (.v (y0 3)), .int .i64 (.v (y0 4))]), (5, .osl 1008), (9, .sl 8 (e_arrn 8 e_i64) a3.1), (10, .int .i64 (.v a3.2)), (11, .osl 1011)], [(1008, .arr false 62 8 (e_arrn 8 e_i64) j1), (1011, .arr false 62 8 (e_arrn 8 e_i64) j5)], []⟩) (jetsamref15_Heaviest_K4 y0 a3) ?_ (fun j5 h => ?_)
        · conv => cbv
          refine den_loop (jetsamref15_Heaviest_L2 y0 j1 a3) h (fun a8 : Int × (List (Nat → Int)) => ⟨[(2, .rptr [.int .i64 (.v (y0 0)), .int .i64 (.v (y0 1)), .int .i64 (.v (y0 2)), .int .i64 (.v (y0 3)), .int .i64 (.v (y0 4))]), (5, .osl 1008), (9, .sl 8 (e_arrn 8 e_i64) a3.1), (10, .int .i64 (.v a3.2)), (11, .osl 1011), (12, .int .i64 (.v a8.1))], [(1008, .arr false 62 8 (e_arrn 8 e_i64) j1), (1011, .arr false 62 8 (e_arrn 8 e_i64) a8.2)], []⟩) ?_ (fun _ _ a8 x2 h hb2 hx2 => ?_)
          · intro j0 hj
            conv => cbv
            subst hj
            exact ⟨⟨.same _, .arr _ _ _ _ _ _ rfl, trivial⟩, .same _, .same _, .same _, .same _, .own _ _ _ _ _ _ rfl rfl, .int _ _ _ rfl, trivial⟩
          unfold jetsamref15_Heaviest_L2 at h
          conv => cbv
          refine den_br h (fun _ h => ?_) (fun _ h => ?_)
          · conv => cbv
            refine den_cut (r := x2) (fun j9 : (List (Nat → Int)) => ⟨[(2, .rptr [.int .i64 (.v (y0 0)), .int .i64 (.v (y0 1)), .int .i64 (.v (y0 2)), .int .i64 (.v (y0 3)), .int .i64 (.v (y0 4))]), (5, .osl 1008), (9, .sl 8 (e_arrn 8 e_i64) a3.1), (10, .int .i64 (.v a3.2)), (11, .osl 1011), (12, .int .i64 (.v a8.1))], [(1008, .arr false 62 8 (e_arrn 8 e_i64) j1), (1011, .arr false 62 8 (e_arrn 8 e_i64) j9)], []⟩) (jetsamref15_Heaviest_K5 a8) ?_ (fun j9 h => ?_)
            · conv => cbv
              refine den_chk h fun h => ?_
              conv => cbv
              refine den_br h (fun _ h => ?_) (fun _ h => ?_)
              · conv => cbv
                refine .mk ?_
                conv => cbv
                refine den_chk h fun h => ?_
                conv => cbv
                refine den_chk h fun h => ?_
                conv => cbv
                refine den_eload h fun p10 _ h => ?_
                conv => cbv
                refine .data ?_
                conv => cbv
                refine den_app_own (e_arrn 8 e_i64) (xs := [p10]) h rfl (News.sls (.cons _ _ _ _ (VEq.of_lepl (.cons _ _ _ _ (.same _) (.cons _ _ _ _ (.same _) (.cons _ _ _ _ (.same _) (.cons _ _ _ _ (.same _) (.cons _ _ _ _ (.same _) (.cons _ _ _ _ (.same _) (.cons _ _ _ _ (.same _) (.cons _ _ _ _ (.same _) .nil)))))))) rfl) .nil)) fun l11 _ h => ?_
                conv => cbv
                refine den_join h fun j0 hj => ?_
                conv => cbv
                subst hj
                exact ⟨⟨.same _, .arr _ _ _ _ _ _ rfl, trivial⟩, .same _, .same _, .same _, .same _, .same _, .same _, trivial⟩
              conv => cbv
              refine den_join h fun j0 hj => ?_
              conv => cbv
              subst hj
              exact ⟨⟨.same _, .arr _ _ _ _ _ _ rfl, trivial⟩, .same _, .same _, .same _, .same _, .same _, .same _, trivial⟩
            unfold jetsamref15_Heaviest_K5 at h
            conv => cbv
            refine den_back h hb2 fun j0 hj => ?_
            conv => cbv
            subst hj
            exact ⟨⟨.same _, .arr _ _ _ _ _ _ rfl, trivial⟩, .same _, .same _, .same _, .same _, .same _, .int _ _ _ rfl, trivial⟩
          conv => cbv
          replace h := den_out h hx2
          refine den_join h fun j0 hj => ?_
          conv => cbv
          subst hj
          exact ⟨⟨.same _, .arr _ _ _ _ _ _ rfl, trivial⟩, .same _, .same _, .same _, .same _, .same _, trivial⟩
        unfold jetsamref15_Heaviest_K4 at h
        conv => cbv
        refine .mk ?_
        conv => cbv
        refine den_lend e_bool [(e_arrn 5 e_i64) y0, (e_sl 8 (e_arrn 8 e_i64)) j5] h (fun _ h => hP ▸ v_jetsamref15_Right h) (.cons _ _ _ _ (.same _) (.cons _ _ _ _ (.same _) .nil)) (fun _ => rfl) fun r6 _ h => ?_
        conv => cbv
        refine .mk ?_
        conv => cbv
        refine den_br h (fun _ h => ?_) (fun _ h => ?_)
        · conv => cbv
          refine den_br h (fun _ h => ?_) (fun _ h => ?_)
          · conv => cbv
            refine den_join h fun j0 hj => ?_
            conv => cbv
            subst hj
            exact ⟨⟨.same _, trivial⟩, .same _, .same _, .sl _ _ _ _ rfl, .same _, trivial⟩
          conv => cbv
          refine den_lend e_bool [(e_sl 8 (e_arrn 8 e_i64)) j5, (e_sl 8 (e_arrn 8 e_i64)) a3.1] h (fun _ h => hP ▸ v_jetsamref15_less h) (.cons _ _ _ _ (.same _) (.cons _ _ _ _ (.same _) .nil)) (fun _ => rfl) fun r7 _ h => ?_
          conv => cbv
          refine den_br h (fun _ h => ?_) (fun _ h => ?_)
          · conv => cbv
            refine den_join h fun j0 hj => ?_
            conv => cbv
            subst hj
            exact ⟨⟨.same _, trivial⟩, .same _, .same _, .sl _ _ _ _ rfl, .same _, trivial⟩
          conv => cbv
          refine den_join h fun j0 hj => ?_
          conv => cbv
          subst hj
          exact ⟨⟨.same _, trivial⟩, .same _, .same _, .sl _ _ _ _ rfl, .same _, trivial⟩
        conv => cbv
        refine den_join h fun j0 hj => ?_
        conv => cbv
        subst hj
        exact ⟨⟨.same _, trivial⟩, .same _, .same _, .sl _ _ _ _ rfl, .same _, trivial⟩
      unfold jetsamref15_Heaviest_K3 at h
      conv => cbv
      refine den_back h hb1 fun j0 hj => ?_
      conv => cbv
      subst hj
      exact ⟨⟨.same _, trivial⟩, .same _, .same _, .sl _ _ _ _ rfl, .int _ _ _ rfl, trivial⟩
    conv => cbv
    replace h := den_out h hx1
    refine den_join h fun j0 hj => ?_
    conv => cbv
    subst hj
    exact ⟨.sl _ _ _ _ rfl, trivial⟩
  unfold jetsamref15_Heaviest_K2 at h
  conv => cbv
  cases h
  exact .same _
def T_jetsamlaw15_alike : Tab := [(30, ⟨.slice 62, 1, 24, [.nilsl]⟩), (62, ⟨.arr 8 3, 8, 64, [.int .i64 (.lit 0), .int .i64 (.lit 0), .int .i64 (.lit 0), .int .i64 (.lit 0), .int .i64 (.lit 0), .int .i64 (.lit 0), .int .i64 (.lit 0), .int .i64 (.lit 0)]⟩)]
theorem T_jetsamlaw15_alike_ok : TabOk Try.prog T_jetsamlaw15_alike := by
  have h : T_jetsamlaw15_alike = tabOf Try.prog [30, 62] := by kernel_rfl
  rw [h]; exact tabOk_of (by kernel_rfl)
theorem v_jetsamlaw15_alike {y0 : List (Nat → Int)} {y1 : List (Nat → Int)} {r : Bool} (h : jetsamlaw15_alike y0 y1 = some r) : AVal Try.prog [] 13 [(e_sl 8 (e_arrn 8 e_i64)) y0, (e_sl 8 (e_arrn 8 e_i64)) y1] (e_bool r) := by
  refine aval_of (c := ⟨T_jetsamlaw15_alike, [], 26, [], [(62, [.i, .i, .i, .i, .i, .i, .i, .i])]⟩) Try.func13 (by kernel_rfl) rfl rfl rfl T_jetsamlaw15_alike_ok (eqsOk_of (by kernel_rfl)) Try_mixed rfl fun P hP _ => ?_
  unfold jetsamlaw15_alike at h
  conv => cbv
  refine den_br h (fun _ h => ?_) (fun _ h => ?_)
  · conv => cbv
    cases h
    exact .bool _ _ rfl
  conv => cbv
  refine den_cut (r := r) (fun j1 : Unit => ⟨[], [], []⟩) jetsamlaw15_alike_K1 ?_ (fun j1 h => ?_)
  · conv => cbv
    refine den_loop (jetsamlaw15_alike_L1 y0 y1) h (fun a2 : Int => ⟨[(0, .sl 8 (e_arrn 8 e_i64) y0), (1, .sl 8 (e_arrn 8 e_i64) y1), (5, .int .i64 (.v a2))], [], []⟩) ?_ (fun _ _ a2 x1 h hb1 hx1 => ?_)
    · intro j0 hj
      conv => cbv
      subst hj
      exact ⟨.same _, .same _, .int _ _ _ rfl, trivial⟩
    unfold jetsamlaw15_alike_L1 at h
    conv => cbv
    refine den_br h (fun _ h => ?_) (fun _ h => ?_)
    · conv => cbv
      refine .dup ?_
      conv => cbv
      refine .mk (some []) (by kernel_rfl) ?_
      conv => cbv
      refine den_elem h fun p3 _ h => ?_
      conv => cbv
      refine .mk ?_
      conv => cbv
      refine den_elem h fun p4 _ h => ?_
      conv => cbv
      refine den_br h (fun _ h => ?_) (fun _ h => ?_)
      · conv => cbv
        replace h := den_out h hx1
        cases h
        exact .bool _ _ rfl
      conv => cbv
      refine den_back h hb1 fun j0 hj => ?_
      conv => cbv
      subst hj
      exact ⟨.same _, .same _, .int _ _ _ rfl, trivial⟩
    conv => cbv
    replace h := den_out h hx1
    refine den_join h fun j0 hj => ?_
    conv => cbv
    subst hj
    exact trivial
  unfold jetsamlaw15_alike_K1 at h
  conv => cbv
  cases h
  exact .bool _ _ rfl
def T_jetsamlaw15_ChainHeaviest : Tab := [(25, ⟨.struct [(0, 23), (3, 4), (4, 3)], 5, 40, [.int .i64 (.lit 0), .int .i64 (.lit 0), .int .i64 (.lit 0), .bool (.lit false), .int .i64 (.lit 0)]⟩), (26, ⟨.slice 45, 1, 24, [.nilsl]⟩)]
theorem T_jetsamlaw15_ChainHeaviest_ok : TabOk Try.prog T_jetsamlaw15_ChainHeaviest := by
  have h : T_jetsamlaw15_ChainHeaviest = tabOf Try.prog [25, 26] := by kernel_rfl
  rw [h]; exact tabOk_of (by kernel_rfl)
theorem v_jetsamlaw15_ChainHeaviest {y0 : chain_Guess} {y1 : List chain_Cand} {r : Bool} (h : jetsamlaw15_ChainHeaviest y0 y1 = some r) : AVal Try.prog [] 3 [e_chain_Guess y0, (e_sl 8 e_chain_Cand) y1] (e_bool r) := by
  refine aval_of (c := ⟨T_jetsamlaw15_ChainHeaviest, [], 36, [], []⟩) Try.func3 (by kernel_rfl) rfl rfl rfl T_jetsamlaw15_ChainHeaviest_ok (eqsOk_of (by kernel_rfl)) Try_mixed rfl fun P hP _ => ?_
  unfold jetsamlaw15_ChainHeaviest at h
  conv => cbv
  refine .own ?_
  conv => cbv
  refine den_br h (fun _ h => ?_) (fun _ h => ?_)
  · conv => cbv
    refine den_call e_bool [] h (fun _ h => hP ▸ v_jetsamlaw15_awake h) .nil rfl rfl (fun _ => rfl) fun r1 _ h => ?_
    conv => cbv
    cases h
    exact .same _
  conv => cbv
  refine .mk ?_
  conv => cbv
  refine den_call (fun r : (List chain_Cand) × Int => .tup [(e_sl 8 e_chain_Cand) r.1, e_i64 r.2]) [e_chain_Guess y0, (e_sl 8 e_chain_Cand) y1] h (fun _ h => hP ▸ v_chain_Heaviest h) (.cons _ _ _ _ (.same _) (.cons _ _ _ _ (.same _) .nil)) rfl rfl (fun _ => rfl) fun r2 _ h => ?_
  conv => cbv
  refine .mk ?_
  conv => cbv
  refine den_call (e_arrn 5 e_i64) [e_chain_Guess y0] h (fun _ h => hP ▸ v_jetsamlaw15_guess h) (.cons _ _ _ _ (.same _) .nil) rfl rfl (fun _ => rfl) fun r3 _ h => ?_
  conv => cbv
  refine den_call (e_sl 8 (e_arrn 8 e_i64)) [(e_sl 8 e_chain_Cand) y1] h (fun _ h => hP ▸ v_jetsamlaw15_cands h) (.cons _ _ _ _ (.same _) .nil) rfl rfl (fun _ => rfl) fun r4 _ h => ?_
  conv => cbv
  refine den_call (e_sl 8 (e_arrn 8 e_i64)) [(e_arrn 5 e_i64) r3, (e_sl 8 (e_arrn 8 e_i64)) r4] h (fun _ h => hP ▸ v_jetsamref15_Heaviest h) (.cons _ _ _ _ (.same _) (.cons _ _ _ _ (.same _) .nil)) rfl rfl (fun _ => rfl) fun r5 _ h => ?_
  conv => cbv
  refine den_call (e_sl 8 (e_arrn 8 e_i64)) [(e_sl 8 e_chain_Cand) r2.1] h (fun _ h => hP ▸ v_jetsamlaw15_cands h) (.cons _ _ _ _ (.same _) .nil) rfl rfl (fun _ => rfl) fun r6 _ h => ?_
  conv => cbv
  refine .mk ?_
  conv => cbv
  refine den_call e_bool [(e_sl 8 (e_arrn 8 e_i64)) r6, (e_sl 8 (e_arrn 8 e_i64)) r5] h (fun _ h => hP ▸ v_jetsamlaw15_alike h) (.cons _ _ _ _ (.same _) (.cons _ _ _ _ (.same _) .nil)) rfl rfl (fun _ => rfl) fun r7 _ h => ?_
  conv => cbv
  refine den_br h (fun _ h => ?_) (fun _ h => ?_)
  · conv => cbv
    refine den_call e_i64 [(e_sl 8 (e_arrn 8 e_i64)) r5] h (fun _ h => hP ▸ v_jetsamref15_Weight h) (.cons _ _ _ _ (.same _) .nil) rfl rfl (fun _ => rfl) fun r8 _ h => ?_
    conv => cbv
    refine .mk ?_
    conv => cbv
    refine den_br h (fun _ h => ?_) (fun _ h => ?_)
    · conv => cbv
      refine den_call e_bool [] h (fun _ h => hP ▸ v_jetsamlaw15_awake h) .nil rfl rfl (fun _ => rfl) fun r9 _ h => ?_
      conv => cbv
      cases h
      exact .same _
    conv => cbv
    cases h
    exact .bool _ _ rfl
  conv => cbv
  refine .mk ?_
  conv => cbv
  cases h
  exact .bool _ _ rfl
def T_jetsamref15_Of : Tab := [(3, ⟨.int .i64, 1, 8, [.int .i64 (.lit 0)]⟩), (33, ⟨.arr 5 3, 5, 40, [.int .i64 (.lit 0), .int .i64 (.lit 0), .int .i64 (.lit 0), .int .i64 (.lit 0), .int .i64 (.lit 0)]⟩), (62, ⟨.arr 8 3, 8, 64, [.int .i64 (.lit 0), .int .i64 (.lit 0), .int .i64 (.lit 0), .int .i64 (.lit 0), .int .i64 (.lit 0), .int .i64 (.lit 0), .int .i64 (.lit 0), .int .i64 (.lit 0)]⟩)]
theorem T_jetsamref15_Of_ok : TabOk Try.prog T_jetsamref15_Of := by
  have h : T_jetsamref15_Of = tabOf Try.prog [3, 33, 62] := by kernel_rfl
  rw [h]; exact tabOk_of (by kernel_rfl)
theorem v_jetsamref15_Of {y0 : Nat → Int} {r : Nat → Int} (h : jetsamref15_Of y0 = some r) : AVal Try.prog [] 34 [(e_arrn 8 e_i64) y0] ((e_arrn 5 e_i64) r) := by
  refine aval_of (c := ⟨T_jetsamref15_Of, [], 20, [], []⟩) Try.func34 (by kernel_rfl) rfl rfl rfl T_jetsamref15_Of_ok (eqsOk_of (by kernel_rfl)) Try_mixed rfl fun P hP _ => ?_
  unfold jetsamref15_Of at h
  conv => cbv
  refine .data ?_
  conv => cbv
  refine .mk ?_
  conv => cbv
  refine .mk ?_
  conv => cbv
  refine den_cut (r := r) (fun j1 : Int => ⟨[(2, .ptr 2 0), (3, .ptr 3 0)], [(2, .var [.int .i64 (.lit 0), .int .i64 (.lit 0), .int .i64 (.lit 0), .int .i64 (.lit 0), .int .i64 (.lit 0)]), (3, .var [.int .i64 (.v (y0 4)), .int .i64 (.v (y0 5)), .int .i64 (.v (y0 6)), .int .i64 (.v (y0 7)), .int .i64 (.v j1)])], []⟩) (jetsamref15_Of_K1 y0) ?_ (fun j1 h => ?_)
  · conv => cbv
    refine den_br h (fun _ h => ?_) (fun _ h => ?_)
    · conv => cbv
      refine den_join h fun j0 hj => ?_
      conv => cbv
      subst hj
      exact ⟨⟨.same _, .var _ _ (.cons _ _ _ _ (.same _) (.cons _ _ _ _ (.same _) (.cons _ _ _ _ (.same _) (.cons _ _ _ _ (.same _) (.cons _ _ _ _ (.int _ _ _ rfl) .nil))))), trivial⟩, .same _, .same _, trivial⟩
    conv => cbv
    refine den_join h fun j0 hj => ?_
    conv => cbv
    subst hj
    exact ⟨⟨.same _, .var _ _ (.cons _ _ _ _ (.same _) (.cons _ _ _ _ (.same _) (.cons _ _ _ _ (.same _) (.cons _ _ _ _ (.same _) (.cons _ _ _ _ (.int _ _ _ rfl) .nil))))), trivial⟩, .same _, .same _, trivial⟩
  unfold jetsamref15_Of_K1 at h
  conv => cbv
  cases h
  exact .agg _ _ (.cons _ _ _ _ (.int _ _ _ rfl) (.cons _ _ _ _ (.int _ _ _ rfl) (.cons _ _ _ _ (.int _ _ _ rfl) (.cons _ _ _ _ (.int _ _ _ rfl) (.cons _ _ _ _ (.int _ _ _ rfl) .nil)))))
def T_jetsamref15_before : Tab := [(3, ⟨.int .i64, 1, 8, [.int .i64 (.lit 0)]⟩), (33, ⟨.arr 5 3, 5, 40, [.int .i64 (.lit 0), .int .i64 (.lit 0), .int .i64 (.lit 0), .int .i64 (.lit 0), .int .i64 (.lit 0)]⟩)]
theorem T_jetsamref15_before_ok : TabOk Try.prog T_jetsamref15_before := by
  have h : T_jetsamref15_before = tabOf Try.prog [3, 33] := by kernel_rfl
  rw [h]; exact tabOk_of (by kernel_rfl)
theorem v_jetsamref15_before {y0 : Nat → Int} {y1 : Nat → Int} {r : Bool} (h : jetsamref15_before y0 y1 = some r) : AVal Try.prog [] 35 [(e_arrn 5 e_i64) y0, (e_arrn 5 e_i64) y1] (e_bool r) := by
  refine aval_of (c := ⟨T_jetsamref15_before, [], 24, [], []⟩) Try.func35 (by kernel_rfl) rfl rfl rfl T_jetsamref15_before_ok (eqsOk_of (by kernel_rfl)) Try_mixed rfl fun P hP _ => ?_
  unfold jetsamref15_before at h
  conv => cbv
  refine .data ?_
  conv => cbv
  refine .data ?_
  conv => cbv
  refine den_cut (r := r) (fun j1 : Unit => ⟨[], [], []⟩) jetsamref15_before_K1 ?_ (fun j1 h => ?_)
  · conv => cbv
    refine den_loop (jetsamref15_before_L1 y0 y1) h (fun a2 : Int => ⟨[(2, .rptr [.int .i64 (.v (y0 0)), .int .i64 (.v (y0 1)), .int .i64 (.v (y0 2)), .int .i64 (.v (y0 3)), .int .i64 (.v (y0 4))]), (3, .rptr [.int .i64 (.v (y1 0)), .int .i64 (.v (y1 1)), .int .i64 (.v (y1 2)), .int .i64 (.v (y1 3)), .int .i64 (.v (y1 4))]), (5, .int .i64 (.v a2))], [], []⟩) ?_ (fun _ _ a2 x1 h hb1 hx1 => ?_)
    · intro j0 hj
      conv => cbv
      subst hj
      exact ⟨.same _, .same _, .int _ _ _ rfl, trivial⟩
    unfold jetsamref15_before_L1 at h
    conv => cbv
    refine den_br h (fun _ h => ?_) (fun _ h => ?_)
    · conv => cbv
      refine .dup ?_
      conv => cbv
      refine .mk (some []) (by kernel_rfl) ?_
      conv => cbv
      refine den_elemV (f := e_i64) (.cons _ _ _ _ (VEq.of_lepl (.cons _ _ _ _ (.same _) .nil) rfl) (.cons _ _ _ _ (VEq.of_lepl (.cons _ _ _ _ (.same _) .nil) rfl) (.cons _ _ _ _ (VEq.of_lepl (.cons _ _ _ _ (.same _) .nil) rfl) (.cons _ _ _ _ (VEq.of_lepl (.cons _ _ _ _ (.same _) .nil) rfl) (.cons _ _ _ _ (VEq.of_lepl (.cons _ _ _ _ (.same _) .nil) rfl) .nil))))) h fun p3 _ h => ?_
      conv => cbv
      refine den_elemV (f := e_i64) (.cons _ _ _ _ (VEq.of_lepl (.cons _ _ _ _ (.same _) .nil) rfl) (.cons _ _ _ _ (VEq.of_lepl (.cons _ _ _ _ (.same _) .nil) rfl) (.cons _ _ _ _ (VEq.of_lepl (.cons _ _ _ _ (.same _) .nil) rfl) (.cons _ _ _ _ (VEq.of_lepl (.cons _ _ _ _ (.same _) .nil) rfl) (.cons _ _ _ _ (VEq.of_lepl (.cons _ _ _ _ (.same _) .nil) rfl) .nil))))) h fun p4 _ h => ?_
      conv => cbv
      refine .mk ?_
      conv => cbv
      refine den_br h (fun _ h => ?_) (fun _ h => ?_)
      · conv => cbv
        refine .dup ?_
        conv => cbv
        refine .mk (some []) (by kernel_rfl) ?_
        conv => cbv
        refine den_elemV (f := e_i64) (.cons _ _ _ _ (VEq.of_lepl (.cons _ _ _ _ (.same _) .nil) rfl) (.cons _ _ _ _ (VEq.of_lepl (.cons _ _ _ _ (.same _) .nil) rfl) (.cons _ _ _ _ (VEq.of_lepl (.cons _ _ _ _ (.same _) .nil) rfl) (.cons _ _ _ _ (VEq.of_lepl (.cons _ _ _ _ (.same _) .nil) rfl) (.cons _ _ _ _ (VEq.of_lepl (.cons _ _ _ _ (.same _) .nil) rfl) .nil))))) h fun p5 _ h => ?_
        conv => cbv
        refine den_elemV (f := e_i64) (.cons _ _ _ _ (VEq.of_lepl (.cons _ _ _ _ (.same _) .nil) rfl) (.cons _ _ _ _ (VEq.of_lepl (.cons _ _ _ _ (.same _) .nil) rfl) (.cons _ _ _ _ (VEq.of_lepl (.cons _ _ _ _ (.same _) .nil) rfl) (.cons _ _ _ _ (VEq.of_lepl (.cons _ _ _ _ (.same _) .nil) rfl) (.cons _ _ _ _ (VEq.of_lepl (.cons _ _ _ _ (.same _) .nil) rfl) .nil))))) h fun p6 _ h => ?_
        conv => cbv
        refine .mk ?_
        conv => cbv
        replace h := den_out h hx1
        cases h
        exact .bool _ _ rfl
      conv => cbv
      refine den_back h hb1 fun j0 hj => ?_
      conv => cbv
      subst hj
      exact ⟨.same _, .same _, .int _ _ _ rfl, trivial⟩
    conv => cbv
    replace h := den_out h hx1
    refine den_join h fun j0 hj => ?_
    conv => cbv
    subst hj
    exact trivial
  unfold jetsamref15_before_K1 at h
  conv => cbv
  cases h
  exact .bool _ _ rfl
def T_jetsamref15_Guesses : Tab := [(30, ⟨.slice 62, 1, 24, [.nilsl]⟩), (33, ⟨.arr 5 3, 5, 40, [.int .i64 (.lit 0), .int .i64 (.lit 0), .int .i64 (.lit 0), .int .i64 (.lit 0), .int .i64 (.lit 0)]⟩), (41, ⟨.slice 33, 1, 24, [.nilsl]⟩), (62, ⟨.arr 8 3, 8, 64, [.int .i64 (.lit 0), .int .i64 (.lit 0), .int .i64 (.lit 0), .int .i64 (.lit 0), .int .i64 (.lit 0), .int .i64 (.lit 0), .int .i64 (.lit 0), .int .i64 (.lit 0)]⟩)]
theorem T_jetsamref15_Guesses_ok : TabOk Try.prog T_jetsamref15_Guesses := by
  have h : T_jetsamref15_Guesses = tabOf Try.prog [30, 33, 41, 62] := by kernel_rfl
  rw [h]; exact tabOk_of (by kernel_rfl)
theorem v_jetsamref15_Guesses {y0 : List (Nat → Int)} {r : List (Nat → Int)} (h : jetsamref15_Guesses y0 = some r) : AVal Try.prog [] 16 [(e_sl 8 (e_arrn 8 e_i64)) y0] ((e_sl 5 (e_arrn 5 e_i64)) r) := by
  refine aval_of (c := ⟨T_jetsamref15_Guesses, [], 66, [], [(33, [.i, .i, .i, .i, .i])]⟩) Try.func16 (by kernel_rfl) rfl rfl rfl T_jetsamref15_Guesses_ok (eqsOk_of (by kernel_rfl)) Try_mixed rfl fun P hP _ => ?_
  unfold jetsamref15_Guesses at h
  conv => cbv
  refine den_cut (r := r) (fun j1 : (List (Nat → Int)) => ⟨[(3, .osl 1007)], [(1007, .arr false 33 5 (e_arrn 5 e_i64) j1)], []⟩) jetsamref15_Guesses_K1 ?_ (fun j1 h => ?_)
  · conv => cbv
    refine den_loop (jetsamref15_Guesses_L1 y0) h (fun a2 : Int × (List (Nat → Int)) => ⟨[(0, .sl 8 (e_arrn 8 e_i64) y0), (3, .osl 1007), (4, .int .i64 (.v a2.1))], [(1007, .arr false 33 5 (e_arrn 5 e_i64) a2.2)], []⟩) ?_ (fun _ _ a2 x1 h hb1 hx1 => ?_)
    · intro j0 hj
      conv => cbv
      subst hj
      exact ⟨⟨.arr _ _ _ _ _ _ rfl, trivial⟩, .same _, .own _ _ _ _ _ _ rfl rfl, .int _ _ _ rfl, trivial⟩
    unfold jetsamref15_Guesses_L1 at h
    conv => cbv
    refine den_br h (fun _ h => ?_) (fun _ h => ?_)
    · conv => cbv
      refine den_cut (r := x1) (fun j3 : (List (Nat → Int)) => ⟨[(0, .sl 8 (e_arrn 8 e_i64) y0), (3, .osl 1007), (4, .int .i64 (.v a2.1))], [(1007, .arr false 33 5 (e_arrn 5 e_i64) j3)], []⟩) (jetsamref15_Guesses_K2 a2) ?_ (fun j3 h => ?_)
      · conv => cbv
        refine .mk ?_
        conv => cbv
        refine den_elem h fun p4 _ h => ?_
        conv => cbv
        refine den_call e_bool [(e_arrn 8 e_i64) p4] h (fun _ h => hP ▸ v_jetsamref15_May h) (.cons _ _ _ _ (.same _) .nil) rfl rfl (fun _ => rfl) fun r5 _ h => ?_
        conv => cbv
        refine den_br h (fun _ h => ?_) (fun _ h => ?_)
        · conv => cbv
          refine den_join h fun j0 hj => ?_
          conv => cbv
          subst hj
          exact ⟨⟨.arr _ _ _ _ _ _ rfl, trivial⟩, .same _, .same _, .same _, trivial⟩
        conv => cbv
        refine .mk ?_
        conv => cbv
        refine den_elem h fun p6 _ h => ?_
        conv => cbv
        refine den_call (e_arrn 5 e_i64) [(e_arrn 8 e_i64) p6] h (fun _ h => hP ▸ v_jetsamref15_Of h) (.cons _ _ _ _ (.same _) .nil) rfl rfl (fun _ => rfl) fun r7 _ h => ?_
        conv => cbv
        refine den_cut (r := x1) (fun j8 : Int => ⟨[(0, .sl 8 (e_arrn 8 e_i64) y0), (3, .osl 1007), (4, .int .i64 (.v a2.1)), (5, .ptr 5 0), (6, .int .i64 (.v j8))], [(5, .var [.int .i64 (.v (r7 0)), .int .i64 (.v (r7 1)), .int .i64 (.v (r7 2)), .int .i64 (.v (r7 3)), .int .i64 (.v (r7 4))]), (1007, .arr false 33 5 (e_arrn 5 e_i64) a2.2)], []⟩) (jetsamref15_Guesses_K3 a2 r7) ?_ (fun j8 h => ?_)
        · conv => cbv
          refine den_loop (jetsamref15_Guesses_L2 a2 r7) h (fun a16 : Int => ⟨[(0, .sl 8 (e_arrn 8 e_i64) y0), (3, .osl 1007), (4, .int .i64 (.v a2.1)), (5, .ptr 5 0), (6, .int .i64 (.v a16))], [(5, .var [.int .i64 (.v (r7 0)), .int .i64 (.v (r7 1)), .int .i64 (.v (r7 2)), .int .i64 (.v (r7 3)), .int .i64 (.v (r7 4))]), (1007, .arr false 33 5 (e_arrn 5 e_i64) a2.2)], []⟩) ?_ (fun _ _ a16 x2 h hb2 hx2 => ?_)
          · intro j0 hj
            conv => cbv
            subst hj
            exact ⟨⟨.same _, .same _, trivial⟩, .same _, .same _, .same _, .same _, .int _ _ _ rfl, trivial⟩
          unfold jetsamref15_Guesses_L2 at h
          conv => cbv
          refine den_cut (r := x2) (fun j17 : Bool => ⟨[(0, .sl 8 (e_arrn 8 e_i64) y0), (3, .osl 1007), (4, .int .i64 (.v a2.1)), (5, .ptr 5 0), (6, .int .i64 (.v a16)), (36, .bool (.v j17))], [(5, .var [.int .i64 (.v (r7 0)), .int .i64 (.v (r7 1)), .int .i64 (.v (r7 2)), .int .i64 (.v (r7 3)), .int .i64 (.v (r7 4))]), (1007, .arr false 33 5 (e_arrn 5 e_i64) a2.2)], []⟩) (jetsamref15_Guesses_K5 a2 r7 a16) ?_ (fun j17 h => ?_)
          · conv => cbv
            refine .mk (some []) (by kernel_rfl) ?_
            conv => cbv
            refine .mk ?_
            conv => cbv
            refine den_br h (fun _ h => ?_) (fun _ h => ?_)
            · conv => cbv
              refine den_chk h fun h => ?_
              conv => cbv
              refine den_chk h fun h => ?_
              conv => cbv
              refine den_eload h fun p18 _ h => ?_
              conv => cbv
              refine den_call e_bool [(e_arrn 5 e_i64) p18, (e_arrn 5 e_i64) r7] h (fun _ h => hP ▸ v_jetsamref15_before h) (.cons _ _ _ _ (.same _) (.cons _ _ _ _ (.same _) .nil)) rfl rfl (fun _ => rfl) fun r19 _ h => ?_
              conv => cbv
              refine .mk ?_
              conv => cbv
              refine den_join h fun j0 hj => ?_
              conv => cbv
              subst hj
              exact ⟨⟨.same _, .same _, trivial⟩, .same _, .same _, .same _, .same _, .same _, .bool _ _ rfl, trivial⟩
            conv => cbv
            refine .mk ?_
            conv => cbv
            refine den_join h fun j0 hj => ?_
            conv => cbv
            subst hj
            exact ⟨⟨.same _, .same _, trivial⟩, .same _, .same _, .same _, .same _, .same _, .bool _ _ rfl, trivial⟩
          unfold jetsamref15_Guesses_K5 at h
          conv => cbv
          refine den_br h (fun _ h => ?_) (fun _ h => ?_)
          · conv => cbv
            refine den_back h hb2 fun j0 hj => ?_
            conv => cbv
            subst hj
            exact ⟨⟨.same _, .same _, trivial⟩, .same _, .same _, .same _, .same _, .int _ _ _ rfl, trivial⟩
          conv => cbv
          replace h := den_out h hx2
          refine den_join h fun j0 hj => ?_
          conv => cbv
          subst hj
          exact ⟨⟨.same _, .same _, trivial⟩, .same _, .same _, .same _, .same _, .int _ _ _ rfl, trivial⟩
        unfold jetsamref15_Guesses_K3 at h
        conv => cbv
        refine den_cut (r := x1) (fun j9 : Bool => ⟨[(0, .sl 8 (e_arrn 8 e_i64) y0), (3, .osl 1007), (4, .int .i64 (.v a2.1)), (5, .ptr 5 0), (6, .int .i64 (.v j8)), (50, .bool (.v j9))], [(5, .var [.int .i64 (.v (r7 0)), .int .i64 (.v (r7 1)), .int .i64 (.v (r7 2)), .int .i64 (.v (r7 3)), .int .i64 (.v (r7 4))]), (1007, .arr false 33 5 (e_arrn 5 e_i64) a2.2)], []⟩) (jetsamref15_Guesses_K4 a2 r7 j8) ?_ (fun j9 h => ?_)
        · conv => cbv
          refine .mk (some []) (by kernel_rfl) ?_
          conv => cbv
          refine .mk ?_
          conv => cbv
          refine den_br h (fun _ h => ?_) (fun _ h => ?_)
          · conv => cbv
            refine den_chk h fun h => ?_
            conv => cbv
            refine den_chk h fun h => ?_
            conv => cbv
            refine den_eload h fun p15 _ h => ?_
            conv => cbv
            refine .mk ?_
            conv => cbv
            refine den_join h fun j0 hj => ?_
            conv => cbv
            subst hj
            exact ⟨⟨.same _, .same _, trivial⟩, .same _, .same _, .same _, .same _, .same _, .bool _ _ rfl, trivial⟩
          conv => cbv
          refine .mk ?_
          conv => cbv
          refine den_join h fun j0 hj => ?_
          conv => cbv
          subst hj
          exact ⟨⟨.same _, .same _, trivial⟩, .same _, .same _, .same _, .same _, .same _, .bool _ _ rfl, trivial⟩
        unfold jetsamref15_Guesses_K4 at h
        conv => cbv
        refine den_br h (fun _ h => ?_) (fun _ h => ?_)
        · conv => cbv
          refine den_join h fun j0 hj => ?_
          conv => cbv
          subst hj
          exact ⟨⟨.arr _ _ _ _ _ _ rfl, trivial⟩, .same _, .same _, .same _, trivial⟩
        conv => cbv
        refine .mk ?_
        conv => cbv
        refine den_subo_f h fun l10 _ h => ?_
        conv => cbv
        refine den_app_nil 1007 (e_arrn 5 e_i64) (xs := l10) h (News.map rfl) fun l11 _ h => ?_
        conv => cbv
        refine .data ?_
        conv => cbv
        refine den_app_own (e_arrn 5 e_i64) (xs := [r7]) h rfl (News.sls (.cons _ _ _ _ (VEq.of_lepl (.cons _ _ _ _ (.same _) (.cons _ _ _ _ (.same _) (.cons _ _ _ _ (.same _) (.cons _ _ _ _ (.same _) (.cons _ _ _ _ (.same _) .nil))))) rfl) .nil)) fun l12 _ h => ?_
        conv => cbv
        refine .mk ?_
        conv => cbv
        refine den_sub h fun l13 _ h => ?_
        conv => cbv
        refine den_app_own (e_arrn 5 e_i64) (xs := l13) h rfl (News.map rfl) fun l14 _ h => ?_
        conv => cbv
        refine den_join h fun j0 hj => ?_
        conv => cbv
        subst hj
        exact ⟨⟨.arr _ _ _ _ _ _ rfl, trivial⟩, .same _, .same _, .same _, trivial⟩
      unfold jetsamref15_Guesses_K2 at h
      conv => cbv
      refine den_back h hb1 fun j0 hj => ?_
      conv => cbv
      subst hj
      exact ⟨⟨.arr _ _ _ _ _ _ rfl, trivial⟩, .same _, .same _, .int _ _ _ rfl, trivial⟩
    conv => cbv
    replace h := den_out h hx1
    refine den_join h fun j0 hj => ?_
    conv => cbv
    subst hj
    exact ⟨⟨.arr _ _ _ _ _ _ rfl, trivial⟩, .same _, trivial⟩
  unfold jetsamref15_Guesses_K1 at h
  conv => cbv
  cases h
  exact .same _
def T_jetsamlaw15_ChainBest : Tab := [(3, ⟨.int .i64, 1, 8, [.int .i64 (.lit 0)]⟩), (25, ⟨.struct [(0, 23), (3, 4), (4, 3)], 5, 40, [.int .i64 (.lit 0), .int .i64 (.lit 0), .int .i64 (.lit 0), .bool (.lit false), .int .i64 (.lit 0)]⟩), (26, ⟨.slice 45, 1, 24, [.nilsl]⟩), (33, ⟨.arr 5 3, 5, 40, [.int .i64 (.lit 0), .int .i64 (.lit 0), .int .i64 (.lit 0), .int .i64 (.lit 0), .int .i64 (.lit 0)]⟩), (41, ⟨.slice 33, 1, 24, [.nilsl]⟩)]
theorem T_jetsamlaw15_ChainBest_ok : TabOk Try.prog T_jetsamlaw15_ChainBest := by
  have h : T_jetsamlaw15_ChainBest = tabOf Try.prog [3, 25, 26, 33, 41] := by kernel_rfl
  rw [h]; exact tabOk_of (by kernel_rfl)
theorem v_jetsamlaw15_ChainBest {y0 : List chain_Cand} {r : Bool} (h : jetsamlaw15_ChainBest y0 = some r) : AVal Try.prog [] 4 [(e_sl 8 e_chain_Cand) y0] (e_bool r) := by
  refine aval_of (c := ⟨T_jetsamlaw15_ChainBest, [], 68, [], [(33, [.i, .i, .i, .i, .i])]⟩) Try.func4 (by kernel_rfl) rfl rfl rfl T_jetsamlaw15_ChainBest_ok (eqsOk_of (by kernel_rfl)) Try_mixed rfl fun P hP _ => ?_
  unfold jetsamlaw15_ChainBest at h
  conv => cbv
  refine den_br h (fun _ h => ?_) (fun _ h => ?_)
  · conv => cbv
    refine den_call e_bool [] h (fun _ h => hP ▸ v_jetsamlaw15_awake h) .nil rfl rfl (fun _ => rfl) fun r1 _ h => ?_
    conv => cbv
    cases h
    exact .same _
  conv => cbv
  refine den_call (fun r : chain_Guess × (List chain_Cand) × Int => .tup [e_chain_Guess r.1, (e_sl 8 e_chain_Cand) r.2.1, e_i64 r.2.2]) [(e_sl 8 e_chain_Cand) y0] h (fun _ h => hP ▸ v_chain_Best h) (.cons _ _ _ _ (.same _) .nil) rfl rfl (fun _ => rfl) fun r2 _ h => ?_
  conv => cbv
  refine .mk ?_
  conv => cbv
  refine den_call (e_sl 8 (e_arrn 8 e_i64)) [(e_sl 8 e_chain_Cand) y0] h (fun _ h => hP ▸ v_jetsamlaw15_cands h) (.cons _ _ _ _ (.same _) .nil) rfl rfl (fun _ => rfl) fun r3 _ h => ?_
  conv => cbv
  refine den_call (e_sl 5 (e_arrn 5 e_i64)) [(e_sl 8 (e_arrn 8 e_i64)) r3] h (fun _ h => hP ▸ v_jetsamref15_Guesses h) (.cons _ _ _ _ (.same _) .nil) rfl rfl (fun _ => rfl) fun r4 _ h => ?_
  conv => cbv
  refine den_cut (r := r) (fun j5 : (List (Nat → Int)) × Int × Int × Int × Int × Int => ⟨[(3, .ptr 3 0), (4, .sl 8 e_chain_Cand r2.2.1), (5, .int .i64 (.v r2.2.2)), (7, .sl 8 (e_arrn 8 e_i64) j5.1), (8, .ptr 8 0)], [(3, .var [.int .i64 (.v r2.1.Params.Rate), .int .i64 (.v r2.1.Params.Channels), .int .i64 (.v r2.1.Params.Depth), .bool (.v r2.1.Variable), .int .i64 (.v r2.1.Block)]), (8, .var [.int .i64 (.v j5.2.1), .int .i64 (.v j5.2.2.1), .int .i64 (.v j5.2.2.2.1), .int .i64 (.v j5.2.2.2.2.1), .int .i64 (.v j5.2.2.2.2.2)])], []⟩) (jetsamlaw15_ChainBest_K1 r2) ?_ (fun j5 h => ?_)
  · conv => cbv
    refine den_loop (jetsamlaw15_ChainBest_L1 r2 r3 r4) h (fun a12 : (List (Nat → Int)) × Int × Int × Int × Int × Int × Int => ⟨[(3, .ptr 3 0), (4, .sl 8 e_chain_Cand r2.2.1), (5, .int .i64 (.v r2.2.2)), (6, .sl 8 (e_arrn 8 e_i64) r3), (7, .sl 8 (e_arrn 8 e_i64) a12.1), (8, .ptr 8 0), (9, .sl 5 (e_arrn 5 e_i64) r4), (10, .int .i64 (.v a12.2.1))], [(3, .var [.int .i64 (.v r2.1.Params.Rate), .int .i64 (.v r2.1.Params.Channels), .int .i64 (.v r2.1.Params.Depth), .bool (.v r2.1.Variable), .int .i64 (.v r2.1.Block)]), (8, .var [.int .i64 (.v a12.2.2.1), .int .i64 (.v a12.2.2.2.1), .int .i64 (.v a12.2.2.2.2.1), .int .i64 (.v a12.2.2.2.2.2.1), .int .i64 (.v a12.2.2.2.2.2.2)])], []⟩) ?_ (fun _ _ a12 x1 h hb1 hx1 => ?_)
    · intro j0 hj
      conv => cbv
      subst hj
      exact ⟨⟨.same _, .var _ _ (.cons _ _ _ _ (.int _ _ _ rfl) (.cons _ _ _ _ (.int _ _ _ rfl) (.cons _ _ _ _ (.int _ _ _ rfl) (.cons _ _ _ _ (.int _ _ _ rfl) (.cons _ _ _ _ (.int _ _ _ rfl) .nil))))), trivial⟩, .same _, .same _, .same _, .same _, .nil _ _ _ rfl, .same _, .same _, .int _ _ _ rfl, trivial⟩
    unfold jetsamlaw15_ChainBest_L1 at h
    conv => cbv
    refine den_br h (fun _ h => ?_) (fun _ h => ?_)
    · conv => cbv
      refine den_cut (r := x1) (fun j13 : (List (Nat → Int)) × Int × Int × Int × Int × Int => ⟨[(3, .ptr 3 0), (4, .sl 8 e_chain_Cand r2.2.1), (5, .int .i64 (.v r2.2.2)), (6, .sl 8 (e_arrn 8 e_i64) r3), (7, .sl 8 (e_arrn 8 e_i64) j13.1), (8, .ptr 8 0), (9, .sl 5 (e_arrn 5 e_i64) r4), (10, .int .i64 (.v a12.2.1))], [(3, .var [.int .i64 (.v r2.1.Params.Rate), .int .i64 (.v r2.1.Params.Channels), .int .i64 (.v r2.1.Params.Depth), .bool (.v r2.1.Variable), .int .i64 (.v r2.1.Block)]), (8, .var [.int .i64 (.v j13.2.1), .int .i64 (.v j13.2.2.1), .int .i64 (.v j13.2.2.2.1), .int .i64 (.v j13.2.2.2.2.1), .int .i64 (.v j13.2.2.2.2.2)])], []⟩) (jetsamlaw15_ChainBest_K3 a12) ?_ (fun j13 h => ?_)
      · conv => cbv
        refine .mk ?_
        conv => cbv
        refine den_elem h fun p14 _ h => ?_
        conv => cbv
        refine den_call (e_sl 8 (e_arrn 8 e_i64)) [(e_arrn 5 e_i64) p14, (e_sl 8 (e_arrn 8 e_i64)) r3] h (fun _ h => hP ▸ v_jetsamref15_Heaviest h) (.cons _ _ _ _ (.same _) (.cons _ _ _ _ (.same _) .nil)) rfl rfl (fun _ => rfl) fun r15 _ h => ?_
        conv => cbv
        refine den_call e_i64 [(e_sl 8 (e_arrn 8 e_i64)) r15] h (fun _ h => hP ▸ v_jetsamref15_Weight h) (.cons _ _ _ _ (.same _) .nil) rfl rfl (fun _ => rfl) fun r16 _ h => ?_
        conv => cbv
        refine den_call e_i64 [(e_sl 8 (e_arrn 8 e_i64)) a12.1] h (fun _ h => hP ▸ v_jetsamref15_Weight h) (.cons _ _ _ _ (.same _) .nil) rfl rfl (fun _ => rfl) fun r17 _ h => ?_
        conv => cbv
        refine den_br h (fun _ h => ?_) (fun _ h => ?_)
        · conv => cbv
          refine den_elem h fun p18 _ h => ?_
          conv => cbv
          refine den_join h fun j0 hj => ?_
          conv => cbv
          subst hj
          exact ⟨⟨.same _, .var _ _ (.cons _ _ _ _ (.int _ _ _ rfl) (.cons _ _ _ _ (.int _ _ _ rfl) (.cons _ _ _ _ (.int _ _ _ rfl) (.cons _ _ _ _ (.int _ _ _ rfl) (.cons _ _ _ _ (.int _ _ _ rfl) .nil))))), trivial⟩, .same _, .same _, .same _, .same _, .sl _ _ _ _ rfl, .same _, .same _, .same _, trivial⟩
        conv => cbv
        refine den_join h fun j0 hj => ?_
        conv => cbv
        subst hj
        exact ⟨⟨.same _, .var _ _ (.cons _ _ _ _ (.int _ _ _ rfl) (.cons _ _ _ _ (.int _ _ _ rfl) (.cons _ _ _ _ (.int _ _ _ rfl) (.cons _ _ _ _ (.int _ _ _ rfl) (.cons _ _ _ _ (.int _ _ _ rfl) .nil))))), trivial⟩, .same _, .same _, .same _, .same _, .sl _ _ _ _ rfl, .same _, .same _, .same _, trivial⟩
      unfold jetsamlaw15_ChainBest_K3 at h
      conv => cbv
      refine den_back h hb1 fun j0 hj => ?_
      conv => cbv
      subst hj
      exact ⟨⟨.same _, .var _ _ (.cons _ _ _ _ (.int _ _ _ rfl) (.cons _ _ _ _ (.int _ _ _ rfl) (.cons _ _ _ _ (.int _ _ _ rfl) (.cons _ _ _ _ (.int _ _ _ rfl) (.cons _ _ _ _ (.int _ _ _ rfl) .nil))))), trivial⟩, .same _, .same _, .same _, .same _, .sl _ _ _ _ rfl, .same _, .same _, .int _ _ _ rfl, trivial⟩
    conv => cbv
    replace h := den_out h hx1
    refine den_join h fun j0 hj => ?_
    conv => cbv
    subst hj
    exact ⟨⟨.same _, .var _ _ (.cons _ _ _ _ (.int _ _ _ rfl) (.cons _ _ _ _ (.int _ _ _ rfl) (.cons _ _ _ _ (.int _ _ _ rfl) (.cons _ _ _ _ (.int _ _ _ rfl) (.cons _ _ _ _ (.int _ _ _ rfl) .nil))))), trivial⟩, .same _, .same _, .same _, .sl _ _ _ _ rfl, .same _, trivial⟩
  unfold jetsamlaw15_ChainBest_K1 at h
  conv => cbv
  refine den_cut (r := r) (fun j6 : Bool => ⟨[(2, .bool (.v j6))], [], []⟩) jetsamlaw15_ChainBest_K2 ?_ (fun j6 h => ?_)
  · conv => cbv
    refine .mk (some []) (by kernel_rfl) ?_
    conv => cbv
    refine den_call (e_arrn 5 e_i64) [e_chain_Guess r2.1] h (fun _ h => hP ▸ v_jetsamlaw15_guess h) (.cons _ _ _ _ (.same _) .nil) rfl rfl (fun _ => rfl) fun r7 _ h => ?_
    conv => cbv
    refine .mk ?_
    conv => cbv
    refine den_br h (fun _ h => ?_) (fun _ h => ?_)
    · conv => cbv
      refine den_call (e_sl 8 (e_arrn 8 e_i64)) [(e_sl 8 e_chain_Cand) r2.2.1] h (fun _ h => hP ▸ v_jetsamlaw15_cands h) (.cons _ _ _ _ (.same _) .nil) rfl rfl (fun _ => rfl) fun r8 _ h => ?_
      conv => cbv
      refine den_call e_bool [(e_sl 8 (e_arrn 8 e_i64)) r8, (e_sl 8 (e_arrn 8 e_i64)) j5.1] h (fun _ h => hP ▸ v_jetsamlaw15_alike h) (.cons _ _ _ _ (.same _) (.cons _ _ _ _ (.same _) .nil)) rfl rfl (fun _ => rfl) fun r9 _ h => ?_
      conv => cbv
      refine .mk ?_
      conv => cbv
      refine den_br h (fun _ h => ?_) (fun _ h => ?_)
      · conv => cbv
        refine den_call e_i64 [(e_sl 8 (e_arrn 8 e_i64)) j5.1] h (fun _ h => hP ▸ v_jetsamref15_Weight h) (.cons _ _ _ _ (.same _) .nil) rfl rfl (fun _ => rfl) fun r10 _ h => ?_
        conv => cbv
        refine .mk ?_
        conv => cbv
        refine den_br h (fun _ h => ?_) (fun _ h => ?_)
        · conv => cbv
          refine den_call e_bool [] h (fun _ h => hP ▸ v_jetsamlaw15_awake h) .nil rfl rfl (fun _ => rfl) fun r11 _ h => ?_
          conv => cbv
          refine den_join h fun j0 hj => ?_
          conv => cbv
          subst hj
          exact ⟨.bool _ _ rfl, trivial⟩
        conv => cbv
        refine den_join h fun j0 hj => ?_
        conv => cbv
        subst hj
        exact ⟨.bool _ _ rfl, trivial⟩
      conv => cbv
      refine .mk ?_
      conv => cbv
      refine den_join h fun j0 hj => ?_
      conv => cbv
      subst hj
      exact ⟨.bool _ _ rfl, trivial⟩
    conv => cbv
    refine .mk ?_
    conv => cbv
    refine .mk ?_
    conv => cbv
    refine den_join h fun j0 hj => ?_
    conv => cbv
    subst hj
    exact ⟨.bool _ _ rfl, trivial⟩
  unfold jetsamlaw15_ChainBest_K2 at h
  conv => cbv
  cases h
  exact .same _
def T_jetsamlaw15_ChainTurns : Tab := [(25, ⟨.struct [(0, 23), (3, 4), (4, 3)], 5, 40, [.int .i64 (.lit 0), .int .i64 (.lit 0), .int .i64 (.lit 0), .bool (.lit false), .int .i64 (.lit 0)]⟩), (26, ⟨.slice 45, 1, 24, [.nilsl]⟩), (45, ⟨.struct [(0, 23), (3, 3), (4, 3), (5, 3), (6, 3), (7, 4)], 8, 64, [.int .i64 (.lit 0), .int .i64 (.lit 0), .int .i64 (.lit 0), .int .i64 (.lit 0), .int .i64 (.lit 0), .int .i64 (.lit 0), .int .i64 (.lit 0), .bool (.lit false)]⟩)]
theorem T_jetsamlaw15_ChainTurns_ok : TabOk Try.prog T_jetsamlaw15_ChainTurns := by
  have h : T_jetsamlaw15_ChainTurns = tabOf Try.prog [25, 26, 45] := by kernel_rfl
  rw [h]; exact tabOk_of (by kernel_rfl)
theorem v_jetsamlaw15_ChainTurns {y0 : List chain_Cand} {y1 : Int} {r : Bool} (h : jetsamlaw15_ChainTurns y0 y1 = some r) : AVal Try.prog [] 5 [(e_sl 8 e_chain_Cand) y0, e_i64 y1] (e_bool r) := by
  refine aval_of (c := ⟨T_jetsamlaw15_ChainTurns, [], 73, [], [(25, [.i, .i, .i, .b, .i])]⟩) Try.func5 (by kernel_rfl) rfl rfl rfl T_jetsamlaw15_ChainTurns_ok (eqsOk_of (by kernel_rfl)) Try_mixed rfl fun P hP _ => ?_
  unfold jetsamlaw15_ChainTurns at h
  conv => cbv
  refine .mk ?_
  conv => cbv
  refine den_br h (fun _ h => ?_) (fun _ h => ?_)
  · conv => cbv
    refine den_call e_bool [] h (fun _ h => hP ▸ v_jetsamlaw15_awake h) .nil rfl rfl (fun _ => rfl) fun r1 _ h => ?_
    conv => cbv
    cases h
    exact .same _
  conv => cbv
  refine den_cut (r := r) (fun j2 : (List chain_Cand) => ⟨[(0, .sl 8 e_chain_Cand y0), (6, .osl 1006)], [(1006, .arr false 45 8 e_chain_Cand j2)], []⟩) (jetsamlaw15_ChainTurns_K1 y0) ?_ (fun j2 h => ?_)
  · conv => cbv
    refine den_loop (jetsamlaw15_ChainTurns_L1 y0 y1) h (fun a7 : Int × (List chain_Cand) => ⟨[(0, .sl 8 e_chain_Cand y0), (1, .int .i64 (.v y1)), (5, .int .i64 (.len y0)), (6, .osl 1006), (7, .int .i64 (.v a7.1))], [(1006, .arr false 45 8 e_chain_Cand a7.2)], []⟩) ?_ (fun _ _ a7 x1 h hb1 hx1 => ?_)
    · intro j0 hj
      conv => cbv
      subst hj
      exact ⟨⟨.arr _ _ _ _ _ _ rfl, trivial⟩, .same _, .same _, .same _, .own _ _ _ _ _ _ rfl rfl, .int _ _ _ rfl, trivial⟩
    unfold jetsamlaw15_ChainTurns_L1 at h
    conv => cbv
    refine den_br h (fun _ h => ?_) (fun _ h => ?_)
    · conv => cbv
      refine .mk ?_
      conv => cbv
      refine den_chk h fun h => ?_
      conv => cbv
      refine .mk ?_
      conv => cbv
      refine den_chk h fun h => ?_
      conv => cbv
      refine .mk ?_
      conv => cbv
      refine den_chk h fun h => ?_
      conv => cbv
      refine den_elem h fun p8 _ h => ?_
      conv => cbv
      refine .data ?_
      conv => cbv
      refine den_app_own e_chain_Cand (xs := [p8]) h rfl (News.sls (.cons _ _ _ _ (VEq.of_lepl (.cons _ _ _ _ (.same _) (.cons _ _ _ _ (.same _) (.cons _ _ _ _ (.same _) (.cons _ _ _ _ (.same _) (.cons _ _ _ _ (.same _) (.cons _ _ _ _ (.same _) (.cons _ _ _ _ (.same _) (.cons _ _ _ _ (.same _) .nil)))))))) rfl) .nil)) fun l9 _ h => ?_
      conv => cbv
      refine den_back h hb1 fun j0 hj => ?_
      conv => cbv
      subst hj
      exact ⟨⟨.arr _ _ _ _ _ _ rfl, trivial⟩, .same _, .same _, .same _, .same _, .int _ _ _ rfl, trivial⟩
    conv => cbv
    replace h := den_out h hx1
    refine den_join h fun j0 hj => ?_
    conv => cbv
    subst hj
    exact ⟨⟨.arr _ _ _ _ _ _ rfl, trivial⟩, .same _, .same _, trivial⟩
  unfold jetsamlaw15_ChainTurns_K1 at h
  conv => cbv
  refine den_call (fun r : chain_Guess × (List chain_Cand) × Int => .tup [e_chain_Guess r.1, (e_sl 8 e_chain_Cand) r.2.1, e_i64 r.2.2]) [(e_sl 8 e_chain_Cand) y0] h (fun _ h => hP ▸ v_chain_Best h) (.cons _ _ _ _ (.same _) .nil) rfl rfl (fun _ => rfl) fun r3 _ h => ?_
  conv => cbv
  refine .mk ?_
  conv => cbv
  refine den_call (fun r : chain_Guess × (List chain_Cand) × Int => .tup [e_chain_Guess r.1, (e_sl 8 e_chain_Cand) r.2.1, e_i64 r.2.2]) [(e_sl 8 e_chain_Cand) j2] h (fun _ h => hP ▸ v_chain_Best h) (.cons _ _ _ _ (.same _) .nil) rfl rfl (fun _ => rfl) fun r4 _ h => ?_
  conv => cbv
  refine .mk ?_
  conv => cbv
  refine .mk ?_
  conv => cbv
  refine den_br h (fun _ h => ?_) (fun _ h => ?_)
  · conv => cbv
    refine den_call e_bool [(e_sl 8 e_chain_Cand) r3.2.1, (e_sl 8 e_chain_Cand) r4.2.1] h (fun _ h => hP ▸ v_jetsamlaw15_same h) (.cons _ _ _ _ (.same _) (.cons _ _ _ _ (.same _) .nil)) rfl rfl (fun _ => rfl) fun r5 _ h => ?_
    conv => cbv
    refine .mk ?_
    conv => cbv
    refine den_br h (fun _ h => ?_) (fun _ h => ?_)
    · conv => cbv
      refine den_call e_bool [] h (fun _ h => hP ▸ v_jetsamlaw15_awake h) .nil rfl rfl (fun _ => rfl) fun r6 _ h => ?_
      conv => cbv
      cases h
      exact .same _
    conv => cbv
    cases h
    exact .bool _ _ rfl
  conv => cbv
  refine .mk ?_
  conv => cbv
  cases h
  exact .bool _ _ rfl
def T_jetsamlaw15_ChainMore : Tab := [(25, ⟨.struct [(0, 23), (3, 4), (4, 3)], 5, 40, [.int .i64 (.lit 0), .int .i64 (.lit 0), .int .i64 (.lit 0), .bool (.lit false), .int .i64 (.lit 0)]⟩), (26, ⟨.slice 45, 1, 24, [.nilsl]⟩), (45, ⟨.struct [(0, 23), (3, 3), (4, 3), (5, 3), (6, 3), (7, 4)], 8, 64, [.int .i64 (.lit 0), .int .i64 (.lit 0), .int .i64 (.lit 0), .int .i64 (.lit 0), .int .i64 (.lit 0), .int .i64 (.lit 0), .int .i64 (.lit 0), .bool (.lit false)]⟩)]
theorem T_jetsamlaw15_ChainMore_ok : TabOk Try.prog T_jetsamlaw15_ChainMore := by
  have h : T_jetsamlaw15_ChainMore = tabOf Try.prog [25, 26, 45] := by kernel_rfl
  rw [h]; exact tabOk_of (by kernel_rfl)
theorem v_jetsamlaw15_ChainMore {y0 : List chain_Cand} {y1 : List chain_Cand} {r : Bool} (h : jetsamlaw15_ChainMore y0 y1 = some r) : AVal Try.prog [] 6 [(e_sl 8 e_chain_Cand) y0, (e_sl 8 e_chain_Cand) y1] (e_bool r) := by
  refine aval_of (c := ⟨T_jetsamlaw15_ChainMore, [], 64, [], []⟩) Try.func6 (by kernel_rfl) rfl rfl rfl T_jetsamlaw15_ChainMore_ok (eqsOk_of (by kernel_rfl)) Try_mixed rfl fun P hP _ => ?_
  unfold jetsamlaw15_ChainMore at h
  conv => cbv
  refine .mk ?_
  conv => cbv
  refine den_br h (fun _ h => ?_) (fun _ h => ?_)
  · conv => cbv
    refine den_call e_bool [] h (fun _ h => hP ▸ v_jetsamlaw15_awake h) .nil rfl rfl (fun _ => rfl) fun r1 _ h => ?_
    conv => cbv
    cases h
    exact .same _
  conv => cbv
  refine den_call (fun r : chain_Guess × (List chain_Cand) × Int => .tup [e_chain_Guess r.1, (e_sl 8 e_chain_Cand) r.2.1, e_i64 r.2.2]) [(e_sl 8 e_chain_Cand) y0] h (fun _ h => hP ▸ v_chain_Best h) (.cons _ _ _ _ (.same _) .nil) rfl rfl (fun _ => rfl) fun r2 _ h => ?_
  conv => cbv
  refine .mk ?_
  conv => cbv
  refine den_app_nil 1008 e_chain_Cand (xs := y0) h (News.map rfl) fun l3 _ h => ?_
  conv => cbv
  refine den_app_own e_chain_Cand (xs := y1) h rfl (News.map rfl) fun l4 _ h => ?_
  conv => cbv
  refine den_call (fun r : chain_Guess × (List chain_Cand) × Int => .tup [e_chain_Guess r.1, (e_sl 8 e_chain_Cand) r.2.1, e_i64 r.2.2]) [(e_sl 8 e_chain_Cand) l4] h (fun _ h => hP ▸ v_chain_Best h) (.cons _ _ _ _ (.same _) .nil) rfl rfl (fun _ => rfl) fun r5 _ h => ?_
  conv => cbv
  refine .mk ?_
  conv => cbv
  refine den_call (fun r : chain_Guess × (List chain_Cand) × Int => .tup [e_chain_Guess r.1, (e_sl 8 e_chain_Cand) r.2.1, e_i64 r.2.2]) [(e_sl 8 e_chain_Cand) r2.2.1] h (fun _ h => hP ▸ v_chain_Best h) (.cons _ _ _ _ (.same _) .nil) rfl rfl (fun _ => rfl) fun r6 _ h => ?_
  conv => cbv
  refine .mk ?_
  conv => cbv
  refine .mk ?_
  conv => cbv
  refine .mk ?_
  conv => cbv
  refine den_br h (fun _ h => ?_) (fun _ h => ?_)
  · conv => cbv
    refine den_call e_bool [(e_sl 8 e_chain_Cand) r6.2.1, (e_sl 8 e_chain_Cand) r2.2.1] h (fun _ h => hP ▸ v_jetsamlaw15_same h) (.cons _ _ _ _ (.same _) (.cons _ _ _ _ (.same _) .nil)) rfl rfl (fun _ => rfl) fun r7 _ h => ?_
    conv => cbv
    refine den_br h (fun _ h => ?_) (fun _ h => ?_)
    · conv => cbv
      refine den_call e_bool [] h (fun _ h => hP ▸ v_jetsamlaw15_awake h) .nil rfl rfl (fun _ => rfl) fun r8 _ h => ?_
      conv => cbv
      cases h
      exact .same _
    conv => cbv
    cases h
    exact .bool _ _ rfl
  conv => cbv
  cases h
  exact .bool _ _ rfl
def T_chain_Right : Tab := [(25, ⟨.struct [(0, 23), (3, 4), (4, 3)], 5, 40, [.int .i64 (.lit 0), .int .i64 (.lit 0), .int .i64 (.lit 0), .bool (.lit false), .int .i64 (.lit 0)]⟩), (26, ⟨.slice 45, 1, 24, [.nilsl]⟩), (45, ⟨.struct [(0, 23), (3, 3), (4, 3), (5, 3), (6, 3), (7, 4)], 8, 64, [.int .i64 (.lit 0), .int .i64 (.lit 0), .int .i64 (.lit 0), .int .i64 (.lit 0), .int .i64 (.lit 0), .int .i64 (.lit 0), .int .i64 (.lit 0), .bool (.lit false)]⟩)]
theorem T_chain_Right_ok : TabOk Try.prog T_chain_Right := by
  have h : T_chain_Right = tabOf Try.prog [25, 26, 45] := by kernel_rfl
  rw [h]; exact tabOk_of (by kernel_rfl)
theorem v_chain_Right {y0 : chain_Guess} {y1 : List chain_Cand} {r : Bool} (h : chain_Right y0 y1 = some r) : AVal Try.prog [] 18 [e_chain_Guess y0, (e_sl 8 e_chain_Cand) y1] (e_bool r) := by
  refine aval_of (c := ⟨T_chain_Right, [], 46, [], []⟩) Try.func18 (by kernel_rfl) rfl rfl rfl T_chain_Right_ok (eqsOk_of (by kernel_rfl)) Try_mixed rfl fun P hP _ => ?_
  unfold chain_Right at h
  conv => cbv
  refine .own ?_
  conv => cbv
  refine den_cut (r := r) (fun j1 : Unit => ⟨[(1, .sl 8 e_chain_Cand y1)], [], []⟩) (chain_Right_K1 y1) ?_ (fun j1 h => ?_)
  · conv => cbv
    refine den_loop (chain_Right_L1 y0 y1) h (fun a2 : Int => ⟨[(1, .sl 8 e_chain_Cand y1), (2, .ptr 2 0), (7, .sl 8 e_chain_Cand y1), (8, .int .i64 (.len y1)), (9, .int .i64 (.v a2))], [(2, .var [.int .i64 (.v y0.Params.Rate), .int .i64 (.v y0.Params.Channels), .int .i64 (.v y0.Params.Depth), .bool (.v y0.Variable), .int .i64 (.v y0.Block)])], []⟩) ?_ (fun _ _ a2 x1 h hb1 hx1 => ?_)
    · intro j0 hj
      conv => cbv
      subst hj
      exact ⟨⟨.same _, trivial⟩, .same _, .same _, .same _, .same _, .int _ _ _ rfl, trivial⟩
    unfold chain_Right_L1 at h
    conv => cbv
    refine den_br h (fun _ h => ?_) (fun _ h => ?_)
    · conv => cbv
      refine .mk ?_
      conv => cbv
      refine den_elem h fun p3 _ h => ?_
      conv => cbv
      refine den_cut (r := x1) (fun j4 : Bool => ⟨[(1, .sl 8 e_chain_Cand y1), (2, .ptr 2 0), (7, .sl 8 e_chain_Cand y1), (8, .int .i64 (.len y1)), (9, .int .i64 (.v a2)), (41, .bool (.v j4))], [(2, .var [.int .i64 (.v y0.Params.Rate), .int .i64 (.v y0.Params.Channels), .int .i64 (.v y0.Params.Depth), .bool (.v y0.Variable), .int .i64 (.v y0.Block)])], []⟩) (chain_Right_K2 a2) ?_ (fun j4 h => ?_)
      · conv => cbv
        refine .mk (some []) (by kernel_rfl) ?_
        conv => cbv
        refine den_call e_bool [e_chain_Cand p3] h (fun _ h => hP ▸ v_chain_may h) (.cons _ _ _ _ (.same _) .nil) rfl rfl (fun _ => rfl) fun r5 _ h => ?_
        conv => cbv
        refine .mk ?_
        conv => cbv
        refine .mk ?_
        conv => cbv
        refine den_br h (fun _ h => ?_) (fun _ h => ?_)
        · conv => cbv
          refine .mk ?_
          conv => cbv
          refine .mk ?_
          conv => cbv
          refine den_join h fun j0 hj => ?_
          conv => cbv
          subst hj
          exact ⟨⟨.same _, trivial⟩, .same _, .same _, .same _, .same _, .same _, .bool _ _ rfl, trivial⟩
        conv => cbv
        refine den_call e_bool [e_chain_Guess y0, e_chain_Cand p3, e_bool (a2 == (W ((y1.length : Int) - 1)))] h (fun _ h => hP ▸ v_chain_Guess_Fits h) (.cons _ _ _ _ (.same _) (.cons _ _ _ _ (.same _) (.cons _ _ _ _ (.bool _ _ rfl) .nil))) rfl rfl (fun _ => rfl) fun r6 _ h => ?_
        conv => cbv
        refine .mk ?_
        conv => cbv
        refine den_br h (fun _ h => ?_) (fun _ h => ?_)
        · conv => cbv
          refine .mk ?_
          conv => cbv
          refine den_join h fun j0 hj => ?_
          conv => cbv
          subst hj
          exact ⟨⟨.same _, trivial⟩, .same _, .same _, .same _, .same _, .same _, .bool _ _ rfl, trivial⟩
        conv => cbv
        refine den_br h (fun _ h => ?_) (fun _ h => ?_)
        · conv => cbv
          refine den_elem h fun p7 _ h => ?_
          conv => cbv
          refine .mk ?_
          conv => cbv
          refine den_call e_bool [e_chain_Cand p7, e_chain_Cand p3] h (fun _ h => hP ▸ v_chain_Follows h) (.cons _ _ _ _ (.same _) (.cons _ _ _ _ (.same _) .nil)) rfl rfl (fun _ => rfl) fun r8 _ h => ?_
          conv => cbv
          refine den_join h fun j0 hj => ?_
          conv => cbv
          subst hj
          exact ⟨⟨.same _, trivial⟩, .same _, .same _, .same _, .same _, .same _, .bool _ _ rfl, trivial⟩
        conv => cbv
        refine .mk ?_
        conv => cbv
        refine den_join h fun j0 hj => ?_
        conv => cbv
        subst hj
        exact ⟨⟨.same _, trivial⟩, .same _, .same _, .same _, .same _, .same _, .bool _ _ rfl, trivial⟩
      unfold chain_Right_K2 at h
      conv => cbv
      refine den_br h (fun _ h => ?_) (fun _ h => ?_)
      · conv => cbv
        replace h := den_out h hx1
        cases h
        exact .bool _ _ rfl
      conv => cbv
      refine den_back h hb1 fun j0 hj => ?_
      conv => cbv
      subst hj
      exact ⟨⟨.same _, trivial⟩, .same _, .same _, .same _, .same _, .int _ _ _ rfl, trivial⟩
    conv => cbv
    replace h := den_out h hx1
    refine den_join h fun j0 hj => ?_
    conv => cbv
    subst hj
    exact ⟨.same _, trivial⟩
  unfold chain_Right_K1 at h
  conv => cbv
  cases h
  exact .bool _ _ rfl
def T_jetsamlaw15_told : Tab := [(3, ⟨.int .i64, 1, 8, [.int .i64 (.lit 0)]⟩), (4, ⟨.bool, 1, 1, [.bool (.lit false)]⟩), (23, ⟨.struct [(0, 3), (1, 3), (2, 3)], 3, 24, [.int .i64 (.lit 0), .int .i64 (.lit 0), .int .i64 (.lit 0)]⟩), (25, ⟨.struct [(0, 23), (3, 4), (4, 3)], 5, 40, [.int .i64 (.lit 0), .int .i64 (.lit 0), .int .i64 (.lit 0), .bool (.lit false), .int .i64 (.lit 0)]⟩), (26, ⟨.slice 45, 1, 24, [.nilsl]⟩), (45, ⟨.struct [(0, 23), (3, 3), (4, 3), (5, 3), (6, 3), (7, 4)], 8, 64, [.int .i64 (.lit 0), .int .i64 (.lit 0), .int .i64 (.lit 0), .int .i64 (.lit 0), .int .i64 (.lit 0), .int .i64 (.lit 0), .int .i64 (.lit 0), .bool (.lit false)]⟩)]
theorem T_jetsamlaw15_told_ok : TabOk Try.prog T_jetsamlaw15_told := by
  have h : T_jetsamlaw15_told = tabOf Try.prog [3, 4, 23, 25, 26, 45] := by kernel_rfl
  rw [h]; exact tabOk_of (by kernel_rfl)
theorem v_jetsamlaw15_told {y0 : chain_Guess} {y1 : List chain_Cand} {r : Bool} (h : jetsamlaw15_told y0 y1 = some r) : AVal Try.prog [] 19 [e_chain_Guess y0, (e_sl 8 e_chain_Cand) y1] (e_bool r) := by
  refine aval_of (c := ⟨T_jetsamlaw15_told, [], 54, [], [(23, [.i, .i, .i])]⟩) Try.func19 (by kernel_rfl) rfl rfl rfl T_jetsamlaw15_told_ok (eqsOk_of (by kernel_rfl)) Try_mixed rfl fun P hP _ => ?_
  unfold jetsamlaw15_told at h
  conv => cbv
  refine .own ?_
  conv => cbv
  refine den_cut (r := r) (fun j1 : Unit => ⟨[], [], []⟩) jetsamlaw15_told_K1 ?_ (fun j1 h => ?_)
  · conv => cbv
    refine den_loop (jetsamlaw15_told_L1 y0 y1) h (fun a2 : Int => ⟨[(1, .sl 8 e_chain_Cand y1), (2, .ptr 2 0), (5, .int .i64 (.v a2))], [(2, .var [.int .i64 (.v y0.Params.Rate), .int .i64 (.v y0.Params.Channels), .int .i64 (.v y0.Params.Depth), .bool (.v y0.Variable), .int .i64 (.v y0.Block)])], []⟩) ?_ (fun _ _ a2 x1 h hb1 hx1 => ?_)
    · intro j0 hj
      conv => cbv
      subst hj
      exact ⟨⟨.same _, trivial⟩, .same _, .same _, .int _ _ _ rfl, trivial⟩
    unfold jetsamlaw15_told_L1 at h
    conv => cbv
    refine den_br h (fun _ h => ?_) (fun _ h => ?_)
    · conv => cbv
      refine den_cut (r := x1) (fun j3 : Bool => ⟨[(1, .sl 8 e_chain_Cand y1), (2, .ptr 2 0), (5, .int .i64 (.v a2)), (53, .bool (.v j3))], [(2, .var [.int .i64 (.v y0.Params.Rate), .int .i64 (.v y0.Params.Channels), .int .i64 (.v y0.Params.Depth), .bool (.v y0.Variable), .int .i64 (.v y0.Block)])], []⟩) (jetsamlaw15_told_K2 a2) ?_ (fun j3 h => ?_)
      · conv => cbv
        refine .mk (some []) (by kernel_rfl) ?_
        conv => cbv
        refine den_elem h fun p4 _ h => ?_
        conv => cbv
        refine .mk ?_
        conv => cbv
        refine .mk ?_
        conv => cbv
        refine den_br h (fun _ h => ?_) (fun _ h => ?_)
        · conv => cbv
          refine den_elem h fun p5 _ h => ?_
          conv => cbv
          refine .mk ?_
          conv => cbv
          refine .mk ?_
          conv => cbv
          refine .mk ?_
          conv => cbv
          refine .mk ?_
          conv => cbv
          refine den_br h (fun _ h => ?_) (fun _ h => ?_)
          · conv => cbv
            refine den_br h (fun _ h => ?_) (fun _ h => ?_)
            · conv => cbv
              refine .mk ?_
              conv => cbv
              refine den_join h fun j0 hj => ?_
              conv => cbv
              subst hj
              exact ⟨⟨.same _, trivial⟩, .same _, .same _, .same _, .bool _ _ rfl, trivial⟩
            conv => cbv
            refine den_br h (fun _ h => ?_) (fun _ h => ?_)
            · conv => cbv
              refine den_elem h fun p6 _ h => ?_
              conv => cbv
              refine .mk ?_
              conv => cbv
              refine den_join h fun j0 hj => ?_
              conv => cbv
              subst hj
              exact ⟨⟨.same _, trivial⟩, .same _, .same _, .same _, .bool _ _ rfl, trivial⟩
            conv => cbv
            refine .mk ?_
            conv => cbv
            refine den_join h fun j0 hj => ?_
            conv => cbv
            subst hj
            exact ⟨⟨.same _, trivial⟩, .same _, .same _, .same _, .bool _ _ rfl, trivial⟩
          conv => cbv
          refine .mk ?_
          conv => cbv
          refine den_join h fun j0 hj => ?_
          conv => cbv
          subst hj
          exact ⟨⟨.same _, trivial⟩, .same _, .same _, .same _, .bool _ _ rfl, trivial⟩
        conv => cbv
        refine .mk ?_
        conv => cbv
        refine .mk ?_
        conv => cbv
        refine .mk ?_
        conv => cbv
        refine .mk ?_
        conv => cbv
        refine .mk ?_
        conv => cbv
        refine den_join h fun j0 hj => ?_
        conv => cbv
        subst hj
        exact ⟨⟨.same _, trivial⟩, .same _, .same _, .same _, .bool _ _ rfl, trivial⟩
      unfold jetsamlaw15_told_K2 at h
      conv => cbv
      refine den_br h (fun _ h => ?_) (fun _ h => ?_)
      · conv => cbv
        replace h := den_out h hx1
        cases h
        exact .bool _ _ rfl
      conv => cbv
      refine den_back h hb1 fun j0 hj => ?_
      conv => cbv
      subst hj
      exact ⟨⟨.same _, trivial⟩, .same _, .same _, .int _ _ _ rfl, trivial⟩
    conv => cbv
    replace h := den_out h hx1
    refine den_join h fun j0 hj => ?_
    conv => cbv
    subst hj
    exact trivial
  unfold jetsamlaw15_told_K1 at h
  conv => cbv
  cases h
  exact .bool _ _ rfl
def T_jetsamlaw15_ChainBound : Tab := [(3, ⟨.int .i64, 1, 8, [.int .i64 (.lit 0)]⟩), (4, ⟨.bool, 1, 1, [.bool (.lit false)]⟩), (25, ⟨.struct [(0, 23), (3, 4), (4, 3)], 5, 40, [.int .i64 (.lit 0), .int .i64 (.lit 0), .int .i64 (.lit 0), .bool (.lit false), .int .i64 (.lit 0)]⟩), (26, ⟨.slice 45, 1, 24, [.nilsl]⟩), (45, ⟨.struct [(0, 23), (3, 3), (4, 3), (5, 3), (6, 3), (7, 4)], 8, 64, [.int .i64 (.lit 0), .int .i64 (.lit 0), .int .i64 (.lit 0), .int .i64 (.lit 0), .int .i64 (.lit 0), .int .i64 (.lit 0), .int .i64 (.lit 0), .bool (.lit false)]⟩)]
theorem T_jetsamlaw15_ChainBound_ok : TabOk Try.prog T_jetsamlaw15_ChainBound := by
  have h : T_jetsamlaw15_ChainBound = tabOf Try.prog [3, 4, 25, 26, 45] := by kernel_rfl
  rw [h]; exact tabOk_of (by kernel_rfl)
theorem v_jetsamlaw15_ChainBound {y0 : List chain_Cand} {y1 : chain_Guess} {y2 : List chain_Cand} {r : Bool} (h : jetsamlaw15_ChainBound y0 y1 y2 = some r) : AVal Try.prog [] 7 [(e_sl 8 e_chain_Cand) y0, e_chain_Guess y1, (e_sl 8 e_chain_Cand) y2] (e_bool r) := by
  refine aval_of (c := ⟨T_jetsamlaw15_ChainBound, [], 126, [], [(45, [.i, .i, .i, .i, .i, .i, .i, .b])]⟩) Try.func7 (by kernel_rfl) rfl rfl rfl T_jetsamlaw15_ChainBound_ok (eqsOk_of (by kernel_rfl)) Try_mixed rfl fun P hP _ => ?_
  unfold jetsamlaw15_ChainBound at h
  conv => cbv
  refine .own ?_
  conv => cbv
  refine .mk ?_
  conv => cbv
  refine den_br h (fun _ h => ?_) (fun _ h => ?_)
  · conv => cbv
    refine den_call e_bool [] h (fun _ h => hP ▸ v_jetsamlaw15_awake h) .nil rfl rfl (fun _ => rfl) fun r1 _ h => ?_
    conv => cbv
    cases h
    exact .same _
  conv => cbv
  refine den_app_nil 1007 e_chain_Cand (xs := y0) h (News.map rfl) fun l2 _ h => ?_
  conv => cbv
  refine den_app_own e_chain_Cand (xs := y2) h rfl (News.map rfl) fun l3 _ h => ?_
  conv => cbv
  refine den_call (fun r : chain_Guess × (List chain_Cand) × Int => .tup [e_chain_Guess r.1, (e_sl 8 e_chain_Cand) r.2.1, e_i64 r.2.2]) [(e_sl 8 e_chain_Cand) l3] h (fun _ h => hP ▸ v_chain_Best h) (.cons _ _ _ _ (.same _) .nil) rfl rfl (fun _ => rfl) fun r4 _ h => ?_
  conv => cbv
  refine .mk ?_
  conv => cbv
  refine den_cut (r := r) (fun j5 : Int => ⟨[(2, .sl 8 e_chain_Cand y2), (4, .ptr 4 0), (7, .sl 8 e_chain_Cand l3), (8, .ptr 8 0), (9, .sl 8 e_chain_Cand r4.2.1), (10, .int .i64 (.v r4.2.2)), (11, .int .i64 (.v j5))], [(4, .var [.int .i64 (.v y1.Params.Rate), .int .i64 (.v y1.Params.Channels), .int .i64 (.v y1.Params.Depth), .bool (.v y1.Variable), .int .i64 (.v y1.Block)]), (8, .var [.int .i64 (.v r4.1.Params.Rate), .int .i64 (.v r4.1.Params.Channels), .int .i64 (.v r4.1.Params.Depth), .bool (.v r4.1.Variable), .int .i64 (.v r4.1.Block)])], []⟩) (jetsamlaw15_ChainBound_K1 y1 y2 l3 r4) ?_ (fun j5 h => ?_)
  · conv => cbv
    refine den_loop (jetsamlaw15_ChainBound_L2 y1 y2 l3 r4) h (fun a16 : Int × Int => ⟨[(2, .sl 8 e_chain_Cand y2), (4, .ptr 4 0), (7, .sl 8 e_chain_Cand l3), (8, .ptr 8 0), (9, .sl 8 e_chain_Cand r4.2.1), (10, .int .i64 (.v r4.2.2)), (11, .int .i64 (.v a16.1)), (12, .int .i64 (.v a16.2))], [(4, .var [.int .i64 (.v y1.Params.Rate), .int .i64 (.v y1.Params.Channels), .int .i64 (.v y1.Params.Depth), .bool (.v y1.Variable), .int .i64 (.v y1.Block)]), (8, .var [.int .i64 (.v r4.1.Params.Rate), .int .i64 (.v r4.1.Params.Channels), .int .i64 (.v r4.1.Params.Depth), .bool (.v r4.1.Variable), .int .i64 (.v r4.1.Block)])], []⟩) ?_ (fun _ _ a16 x1 h hb1 hx1 => ?_)
    · intro j0 hj
      conv => cbv
      subst hj
      exact ⟨⟨.same _, .same _, trivial⟩, .same _, .same _, .same _, .same _, .same _, .same _, .int _ _ _ rfl, .int _ _ _ rfl, trivial⟩
    unfold jetsamlaw15_ChainBound_L2 at h
    conv => cbv
    refine den_br h (fun _ h => ?_) (fun _ h => ?_)
    · conv => cbv
      refine den_cut (r := x1) (fun j17 : Int => ⟨[(2, .sl 8 e_chain_Cand y2), (4, .ptr 4 0), (7, .sl 8 e_chain_Cand l3), (8, .ptr 8 0), (9, .sl 8 e_chain_Cand r4.2.1), (10, .int .i64 (.v r4.2.2)), (11, .int .i64 (.v j17)), (12, .int .i64 (.v a16.2))], [(4, .var [.int .i64 (.v y1.Params.Rate), .int .i64 (.v y1.Params.Channels), .int .i64 (.v y1.Params.Depth), .bool (.v y1.Variable), .int .i64 (.v y1.Block)]), (8, .var [.int .i64 (.v r4.1.Params.Rate), .int .i64 (.v r4.1.Params.Channels), .int .i64 (.v r4.1.Params.Depth), .bool (.v r4.1.Variable), .int .i64 (.v r4.1.Block)])], []⟩) (jetsamlaw15_ChainBound_K3 a16) ?_ (fun j17 h => ?_)
      · conv => cbv
        refine .mk ?_
        conv => cbv
        refine den_elem h fun p18 _ h => ?_
        conv => cbv
        refine den_cut (r := x1) (fun j19 : Bool => ⟨[(2, .sl 8 e_chain_Cand y2), (4, .ptr 4 0), (7, .sl 8 e_chain_Cand l3), (8, .ptr 8 0), (9, .sl 8 e_chain_Cand r4.2.1), (10, .int .i64 (.v r4.2.2)), (11, .int .i64 (.ar .add .i64 (.v a16.1) (.v p18.Size))), (12, .int .i64 (.v a16.2)), (13, .bool (.v j19))], [(4, .var [.int .i64 (.v y1.Params.Rate), .int .i64 (.v y1.Params.Channels), .int .i64 (.v y1.Params.Depth), .bool (.v y1.Variable), .int .i64 (.v y1.Block)]), (8, .var [.int .i64 (.v r4.1.Params.Rate), .int .i64 (.v r4.1.Params.Channels), .int .i64 (.v r4.1.Params.Depth), .bool (.v r4.1.Variable), .int .i64 (.v r4.1.Block)])], []⟩) (jetsamlaw15_ChainBound_K4 a16 p18) ?_ (fun j19 h => ?_)
        · conv => cbv
          refine den_loop (jetsamlaw15_ChainBound_L3 l3 r4 a16 p18) h (fun a20 : Bool × Int => ⟨[(2, .sl 8 e_chain_Cand y2), (4, .ptr 4 0), (7, .sl 8 e_chain_Cand l3), (8, .ptr 8 0), (9, .sl 8 e_chain_Cand r4.2.1), (10, .int .i64 (.v r4.2.2)), (11, .int .i64 (.ar .add .i64 (.v a16.1) (.v p18.Size))), (12, .int .i64 (.v a16.2)), (13, .bool (.v a20.1)), (14, .int .i64 (.v a20.2))], [(4, .var [.int .i64 (.v y1.Params.Rate), .int .i64 (.v y1.Params.Channels), .int .i64 (.v y1.Params.Depth), .bool (.v y1.Variable), .int .i64 (.v y1.Block)]), (8, .var [.int .i64 (.v r4.1.Params.Rate), .int .i64 (.v r4.1.Params.Channels), .int .i64 (.v r4.1.Params.Depth), .bool (.v r4.1.Variable), .int .i64 (.v r4.1.Block)])], []⟩) ?_ (fun _ _ a20 x2 h hb2 hx2 => ?_)
          · intro j0 hj
            conv => cbv
            subst hj
            exact ⟨⟨.same _, .same _, trivial⟩, .same _, .same _, .same _, .same _, .same _, .same _, .same _, .same _, .bool _ _ rfl, .int _ _ _ rfl, trivial⟩
          unfold jetsamlaw15_ChainBound_L3 at h
          conv => cbv
          refine den_br h (fun _ h => ?_) (fun _ h => ?_)
          · conv => cbv
            refine .mk (some []) (by kernel_rfl) ?_
            conv => cbv
            refine .mk ?_
            conv => cbv
            refine den_br h (fun _ h => ?_) (fun _ h => ?_)
            · conv => cbv
              refine .mk ?_
              conv => cbv
              refine den_back h hb2 fun j0 hj => ?_
              conv => cbv
              subst hj
              exact ⟨⟨.same _, .same _, trivial⟩, .same _, .same _, .same _, .same _, .same _, .same _, .same _, .same _, .bool _ _ rfl, .int _ _ _ rfl, trivial⟩
            conv => cbv
            refine den_elem h fun p21 _ h => ?_
            conv => cbv
            refine den_elem h fun p22 _ h => ?_
            conv => cbv
            refine .mk ?_
            conv => cbv
            refine den_back h hb2 fun j0 hj => ?_
            conv => cbv
            subst hj
            exact ⟨⟨.same _, .same _, trivial⟩, .same _, .same _, .same _, .same _, .same _, .same _, .same _, .same _, .bool _ _ rfl, .int _ _ _ rfl, trivial⟩
          conv => cbv
          replace h := den_out h hx2
          refine den_join h fun j0 hj => ?_
          conv => cbv
          subst hj
          exact ⟨⟨.same _, .same _, trivial⟩, .same _, .same _, .same _, .same _, .same _, .same _, .same _, .same _, .bool _ _ rfl, trivial⟩
        unfold jetsamlaw15_ChainBound_K4 at h
        conv => cbv
        refine den_br h (fun _ h => ?_) (fun _ h => ?_)
        · conv => cbv
          replace h := den_out h hx1
          cases h
          exact .bool _ _ rfl
        conv => cbv
        refine den_join h fun j0 hj => ?_
        conv => cbv
        subst hj
        exact ⟨⟨.same _, .same _, trivial⟩, .same _, .same _, .same _, .same _, .same _, .same _, .int _ _ _ rfl, .same _, trivial⟩
      unfold jetsamlaw15_ChainBound_K3 at h
      conv => cbv
      refine den_back h hb1 fun j0 hj => ?_
      conv => cbv
      subst hj
      exact ⟨⟨.same _, .same _, trivial⟩, .same _, .same _, .same _, .same _, .same _, .same _, .int _ _ _ rfl, .int _ _ _ rfl, trivial⟩
    conv => cbv
    replace h := den_out h hx1
    refine den_join h fun j0 hj => ?_
    conv => cbv
    subst hj
    exact ⟨⟨.same _, .same _, trivial⟩, .same _, .same _, .same _, .same _, .same _, .same _, .int _ _ _ rfl, trivial⟩
  unfold jetsamlaw15_ChainBound_K1 at h
  conv => cbv
  refine .mk ?_
  conv => cbv
  refine .mk ?_
  conv => cbv
  refine den_br h (fun _ h => ?_) (fun _ h => ?_)
  · conv => cbv
    cases h
    exact .bool _ _ rfl
  conv => cbv
  refine den_call e_bool [e_chain_Guess r4.1, (e_sl 8 e_chain_Cand) r4.2.1] h (fun _ h => hP ▸ v_chain_Right h) (.cons _ _ _ _ (.same _) (.cons _ _ _ _ (.same _) .nil)) rfl rfl (fun _ => rfl) fun r6 _ h => ?_
  conv => cbv
  refine den_br h (fun _ h => ?_) (fun _ h => ?_)
  · conv => cbv
    cases h
    exact .bool _ _ rfl
  conv => cbv
  refine den_call e_bool [e_chain_Guess y1, (e_sl 8 e_chain_Cand) y2] h (fun _ h => hP ▸ v_chain_Right h) (.cons _ _ _ _ (.same _) (.cons _ _ _ _ (.same _) .nil)) rfl rfl (fun _ => rfl) fun r7 _ h => ?_
  conv => cbv
  refine .mk ?_
  conv => cbv
  refine den_br h (fun _ h => ?_) (fun _ h => ?_)
  · conv => cbv
    refine den_call e_bool [] h (fun _ h => hP ▸ v_jetsamlaw15_awake h) .nil rfl rfl (fun _ => rfl) fun r8 _ h => ?_
    conv => cbv
    cases h
    exact .same _
  conv => cbv
  refine den_call e_bool [e_chain_Guess y1, (e_sl 8 e_chain_Cand) y2] h (fun _ h => hP ▸ v_jetsamlaw15_told h) (.cons _ _ _ _ (.same _) (.cons _ _ _ _ (.same _) .nil)) rfl rfl (fun _ => rfl) fun r9 _ h => ?_
  conv => cbv
  refine den_br h (fun _ h => ?_) (fun _ h => ?_)
  · conv => cbv
    refine den_call e_bool [] h (fun _ h => hP ▸ v_jetsamlaw15_awake h) .nil rfl rfl (fun _ => rfl) fun r10 _ h => ?_
    conv => cbv
    cases h
    exact .same _
  conv => cbv
  refine .mk ?_
  conv => cbv
  refine den_call (fun r : (List chain_Cand) × Int => .tup [(e_sl 8 e_chain_Cand) r.1, e_i64 r.2]) [e_chain_Guess y1, (e_sl 8 e_chain_Cand) l3] h (fun _ h => hP ▸ v_chain_Heaviest h) (.cons _ _ _ _ (.same _) (.cons _ _ _ _ (.same _) .nil)) rfl rfl (fun _ => rfl) fun r11 _ h => ?_
  conv => cbv
  refine den_cut (r := r) (fun j12 : Int => ⟨[(10, .int .i64 (.v r4.2.2)), (16, .int .i64 (.v r11.2)), (17, .int .i64 (.v j12))], [], []⟩) (jetsamlaw15_ChainBound_K2 r4 r11) ?_ (fun j12 h => ?_)
  · conv => cbv
    refine den_loop (jetsamlaw15_ChainBound_L1 y2 r4 r11) h (fun a14 : Int × Int => ⟨[(2, .sl 8 e_chain_Cand y2), (10, .int .i64 (.v r4.2.2)), (16, .int .i64 (.v r11.2)), (17, .int .i64 (.v a14.1)), (18, .int .i64 (.v a14.2))], [], []⟩) ?_ (fun _ _ a14 x1 h hb1 hx1 => ?_)
    · intro j0 hj
      conv => cbv
      subst hj
      exact ⟨.same _, .same _, .same _, .int _ _ _ rfl, .int _ _ _ rfl, trivial⟩
    unfold jetsamlaw15_ChainBound_L1 at h
    conv => cbv
    refine den_br h (fun _ h => ?_) (fun _ h => ?_)
    · conv => cbv
      refine .mk ?_
      conv => cbv
      refine den_elem h fun p15 _ h => ?_
      conv => cbv
      refine den_back h hb1 fun j0 hj => ?_
      conv => cbv
      subst hj
      exact ⟨.same _, .same _, .same _, .int _ _ _ rfl, .int _ _ _ rfl, trivial⟩
    conv => cbv
    replace h := den_out h hx1
    refine den_join h fun j0 hj => ?_
    conv => cbv
    subst hj
    exact ⟨.same _, .same _, .int _ _ _ rfl, trivial⟩
  unfold jetsamlaw15_ChainBound_K2 at h
  conv => cbv
  refine .mk ?_
  conv => cbv
  refine .mk ?_
  conv => cbv
  refine den_br h (fun _ h => ?_) (fun _ h => ?_)
  · conv => cbv
    refine den_call e_bool [] h (fun _ h => hP ▸ v_jetsamlaw15_awake h) .nil rfl rfl (fun _ => rfl) fun r13 _ h => ?_
    conv => cbv
    cases h
    exact .same _
  conv => cbv
  cases h
  exact .bool _ _ rfl
end Go.Proofs.Ythnbhhifehkggaa
