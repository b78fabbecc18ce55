/- That the code answers so, printed by a program. -/
import Derived.Test.YtpjbfealfmjddaaGreatDoorF1
import Derived.Test.YtpjbfealfmjddaaGreatDoorIt
import Derived.Test.YtpjbfealfmjddaaGreatDoorProg
import Derived.Test.YtpjbfealfmjddaaGreatDoorVm
import Derived.Test.YtpjbfealfmjddaaGreatDoorV1
import Derived.Test.YtpjbfealfmjddaaGreatDoorV2
set_option maxRecDepth 4000
set_option linter.all false
set_option linter.unusedVariables false
set_option linter.unusedSimpArgs false
namespace Go.Proofs.YtpjbfealfmjddaaGreatDoor
open Go Go.Vg
def T_subframe_sizes : Tab := []
theorem T_subframe_sizes_ok : TabOk Tryz.prog T_subframe_sizes := tab_ok []
theorem v_subframe_sizes {y0 : Int} {y1 : Int} {r : Int} (h : subframe_sizes y0 y1 = some r) : AVal Tryz.prog Gl 20 [e_i64 y0, e_i64 y1] (e_i64 r) := by
  refine aval_of' T_subframe_sizes Gl 19 Tryz.func20 T_subframe_sizes_ok Tryz_mixed fun P hP _ => ?_
  unfold subframe_sizes at h
  conv => cbv
  refine .mk ?_
  conv => cbv
  refine .mk ?_
  conv => cbv
  refine den_br h (fun _ h => ?_) (fun _ h => ?_)
  · conv => cbv
    cases h
    exact lp
  conv => cbv
  cases h
  exact lp
def Tx_subframe_fits_c1 : Tab := [(3, ⟨.int .i64, 1, 8, [.int .i64 (.lit 0)]⟩)]
theorem Tx_subframe_fits_c1_ok : TabOk Tryz.prog Tx_subframe_fits_c1 := tab_ok [3]
theorem x_subframe_fits_c1 {y0 : Int} {y1 : Int} {r : Unit} (h : subframe_fits_c1 y0 y1 = some r) : ACalls Tryz.prog Gl 62 [e_i64 y0, .ptr 10000 0] [(10000, .var [.int .i64 (.v y1)])] (fun x o' => x = .bool (.ite (.cmp .lss (.v y0) (.ar .sub .i64 (.lit 0) (.v y1))) (.lit true) (.cmp .geq (.v y0) (.v y1))) ∧ o' = [(10000, .var [.int .i64 (.v y1)])]) := by
  refine acalls_of' Tx_subframe_fits_c1 Gl 13 [10000] Tryz.func62 Tx_subframe_fits_c1_ok Tryz_mixed fun P hP _ => ?_
  unfold subframe_fits_c1 at h
  conv => cbv
  refine .mk ?_
  conv => cbv
  refine .mk [(10000, 10000, false)] [] rfl rfl ?_ ?_
  · conv => cbv
    cases h
    exact lp
  conv => cbv
  cases h
  exact lp
def Tx_slices_IndexFunc_sint_int : Tab := [(3, ⟨.int .i64, 1, 8, [.int .i64 (.lit 0)]⟩), (30, ⟨.slice 3, 1, 24, [.nilsl]⟩)]
theorem Tx_slices_IndexFunc_sint_int_ok : TabOk Tryz.prog Tx_slices_IndexFunc_sint_int := tab_ok [3, 30]
theorem x_slices_IndexFunc_sint_int {y0 : List Int} {y1 : Int} {r : Int} (h : slices_IndexFunc_sint_int y0 y1 = some r) : ACalls Tryz.prog Gl 84 [(e_sl 1 e_i64) y0, .fn 62 [] [.ptr 10000 0]] [(10000, .var [.int .i64 (.v y1)])] (fun x o' => x = .int .i64 (.v r) ∧ o' = [(10000, .var [.int .i64 (.v y1)])]) := by
  refine acalls_of' Tx_slices_IndexFunc_sint_int Gl 19 [10000] Tryz.func84 Tx_slices_IndexFunc_sint_int_ok Tryz_mixed fun P hP _ => ?_
  unfold slices_IndexFunc_sint_int at h
  conv => cbv
  refine den_cut' (r := r) slices_IndexFunc_sint_int_K1 (fun j1 => ⟨[], [(10000, .var [.int .i64 (.v y1)])], []⟩) ?_ (fun j1 h => ?_)
  · conv => cbv
    refine den_loop' (slices_IndexFunc_sint_int_L1 y0 y1) h (fun a2 => ⟨[(0, .sl 1 e_i64 y0), (1, .fn 62 [] [.ptr 10000 0]), (7, .int .i64 (.len y0)), (8, .int .i64 (.v a2))], [(10000, .var [.int .i64 (.v y1)])], []⟩) (fun _ _ a2 x1 h hb1 hx1 => ?_)
    unfold slices_IndexFunc_sint_int_L1 at h
    conv => cbv
    refine den_br h (fun _ h => ?_) (fun _ h => ?_)
    · conv => cbv
      refine .mk ?_
      conv => cbv
      refine den_elem h fun p3 _ h => ?_
      conv => cbv
      refine den_own' [(10000, 10000, false)] [] hP h (fun _ h => x_subframe_fits_c1 h) fun r4 _ h => ?_
      conv => cbv
      refine den_br h (fun _ h => ?_) (fun _ h => ?_)
      · conv => cbv
        replace h := den_out h hx1
        refine .mk [(10000, 10000, false)] [] rfl rfl ?_ ?_
        · conv => cbv
          cases h
          exact lp
        conv => cbv
        cases h
        exact lp
      conv => cbv
      exact den_back' h hb1
    conv => cbv
    replace h := den_out h hx1
    exact den_join' h
  unfold slices_IndexFunc_sint_int_K1 at h
  conv => cbv
  refine .mk [(10000, 10000, false)] [] rfl rfl ?_ ?_
  · conv => cbv
    cases h
    exact lp
  conv => cbv
  cases h
  exact lp
def Tx_slices_ContainsFunc_sint_int : Tab := []
theorem Tx_slices_ContainsFunc_sint_int_ok : TabOk Tryz.prog Tx_slices_ContainsFunc_sint_int := tab_ok []
theorem x_slices_ContainsFunc_sint_int {y0 : List Int} {y1 : Int} {r : Bool} (h : slices_ContainsFunc_sint_int y0 y1 = some r) : ACalls Tryz.prog Gl 61 [(e_sl 1 e_i64) y0, .fn 62 [] [.ptr 10000 0]] [(10000, .var [.int .i64 (.v y1)])] (fun x o' => x = .bool (.v r) ∧ o' = [(10000, .var [.int .i64 (.v y1)])]) := by
  refine acalls_of' Tx_slices_ContainsFunc_sint_int Gl 9 [10000] Tryz.func61 Tx_slices_ContainsFunc_sint_int_ok Tryz_mixed fun P hP _ => ?_
  unfold slices_ContainsFunc_sint_int at h
  conv => cbv
  refine den_own' [(10000, 10000, false)] [] hP h (fun _ h => x_slices_IndexFunc_sint_int h) fun r1 _ h => ?_
  conv => cbv
  refine .mk [(10000, 10000, false)] [] rfl rfl ?_ ?_
  · conv => cbv
    cases h
    exact lp
  conv => cbv
  cases h
  exact lp
def T_subframe_fits : Tab := [(3, ⟨.int .i64, 1, 8, [.int .i64 (.lit 0)]⟩)]
theorem T_subframe_fits_ok : TabOk Tryz.prog T_subframe_fits := tab_ok [3]
theorem v_subframe_fits {y0 : Int} {y1 : List Int} {r : Bool} (h : subframe_fits y0 y1 = some r) : AVal Tryz.prog Gl 34 [e_i64 y0, (e_sl 1 e_i64) y1] (e_bool r) := by
  refine aval_of' T_subframe_fits Gl 13 Tryz.func34 T_subframe_fits_ok Tryz_mixed fun P hP _ => ?_
  unfold subframe_fits at h
  conv => cbv
  refine den_chk h fun h => ?_
  conv => cbv
  obtain ⟨t1, ht1, h⟩ := den_let h
  refine den_own' [(5, 10000, false)] [] hP h (fun _ h => x_slices_ContainsFunc_sint_int h) fun r2 _ h => ?_
  conv => cbv
  cases h
  exact lp
def T_subframe_wasted : Tab := [(3, ⟨.int .i64, 1, 8, [.int .i64 (.lit 0)]⟩), (30, ⟨.slice 3, 1, 24, [.nilsl]⟩)]
theorem T_subframe_wasted_ok : TabOk Tryz.prog T_subframe_wasted := tab_ok [3, 30]
theorem v_subframe_wasted {y0 : List Int} {r : Int} (h : subframe_wasted y0 = some r) : AVal Tryz.prog Gl 35 [(e_sl 1 e_i64) y0] (e_i64 r) := by
  refine aval_of' T_subframe_wasted Gl 29 Tryz.func35 T_subframe_wasted_ok Tryz_mixed fun P hP _ => ?_
  unfold subframe_wasted at h
  conv => cbv
  refine den_cut' (r := r) subframe_wasted_K1 (fun j1 => ⟨[(3, .int .i64 (.v j1))], [], []⟩) ?_ (fun j1 h => ?_)
  · conv => cbv
    refine den_loop' (subframe_wasted_L2 y0) h (fun a4 => ⟨[(3, .int .i64 (.v a4.1)), (7, .sl 1 e_i64 y0), (8, .int .i64 (.len y0)), (9, .int .i64 (.v a4.2))], [], []⟩) (fun _ _ a4 x1 h hb1 hx1 => ?_)
    unfold subframe_wasted_L2 at h
    conv => cbv
    refine den_br h (fun _ h => ?_) (fun _ h => ?_)
    · conv => cbv
      refine den_elem h fun p5 _ h => ?_
      conv => cbv
      exact den_back' h hb1
    conv => cbv
    replace h := den_out h hx1
    exact den_join' h
  unfold subframe_wasted_K1 at h
  conv => cbv
  refine den_cut' (r := r) subframe_wasted_K2 (fun j2 => ⟨[(6, .int .i64 (.v j2))], [], []⟩) ?_ (fun j2 h => ?_)
  · conv => cbv
    refine den_loop' subframe_wasted_L1 h (fun a3 => ⟨[(3, .int .i64 (.v a3.1)), (6, .int .i64 (.v a3.2))], [], []⟩) (fun _ _ a3 x1 h hb1 hx1 => ?_)
    unfold subframe_wasted_L1 at h
    conv => cbv
    refine .mk ?_
    conv => cbv
    refine den_br h (fun _ h => ?_) (fun _ h => ?_)
    · conv => cbv
      exact den_back' h hb1
    conv => cbv
    replace h := den_out h hx1
    exact den_join' h
  unfold subframe_wasted_K2 at h
  conv => cbv
  cases h
  exact lp
def T_subframe_less : Tab := [(3, ⟨.int .i64, 1, 8, [.int .i64 (.lit 0)]⟩), (30, ⟨.slice 3, 1, 24, [.nilsl]⟩)]
theorem T_subframe_less_ok : TabOk Tryz.prog T_subframe_less := tab_ok [3, 30]
theorem v_subframe_less {y0 : Int} {y1 : List Int} {r : (List Int) × Bool} (h : subframe_less y0 y1 = some r) : AVal Tryz.prog Gl 36 [e_i64 y0, (e_sl 1 e_i64) y1] (.tup [(e_sl 1 e_i64) r.1, e_bool r.2]) := by
  refine aval_of' T_subframe_less Gl 29 Tryz.func36 T_subframe_less_ok Tryz_mixed fun P hP _ => ?_
  unfold subframe_less at h
  conv => cbv
  refine den_cut' (r := r) subframe_less_K1 (fun j1 => ⟨[(6, .osl 1006)], [(1006, .arr false 3 1 e_i64 j1)], []⟩) ?_ (fun j1 h => ?_)
  · conv => cbv
    refine den_loop (subframe_less_L1 y0 y1) h (fun a2 : Int × (List Int) => ⟨[(0, .int .i64 (.v y0)), (6, .osl 1006), (9, .sl 1 e_i64 y1), (10, .int .i64 (.len y1)), (11, .int .i64 (.v a2.1))], [(1006, .arr false 3 1 e_i64 a2.2)], []⟩) ?_ (fun _ _ a2 x1 h hb1 hx1 => ?_)
    · intro j0 hj
      conv => cbv
      subst hj
      exact ⟨⟨.arr _ _ _ _ _ _ rfl, trivial⟩, .same _, .own _ _ _ _ _ _ rfl rfl, .same _, .same _, .int _ _ _ rfl, trivial⟩
    unfold subframe_less_L1 at h
    conv => cbv
    refine den_br h (fun _ h => ?_) (fun _ h => ?_)
    · conv => cbv
      refine den_elem h fun p3 _ h => ?_
      conv => cbv
      refine .mk ?_
      conv => cbv
      refine den_chk h fun h => ?_
      conv => cbv
      refine den_br h (fun _ h => ?_) (fun _ h => ?_)
      · conv => cbv
        replace h := den_out h hx1
        cases h
        exact .tup _ _ lp
      conv => cbv
      refine .mk ?_
      conv => cbv
      refine den_chk h fun h => ?_
      conv => cbv
      refine .data ?_
      conv => cbv
      refine den_app_own e_i64 (xs := [(shD .shr .i64 p3 y0)]) h rfl lp fun l4 _ h => ?_
      conv => cbv
      exact den_back' h hb1
    conv => cbv
    replace h := den_out h hx1
    exact den_join' h
  unfold subframe_less_K1 at h
  conv => cbv
  cases h
  exact .tup _ _ lp
def Tx_subframe_same_c1 : Tab := [(3, ⟨.int .i64, 1, 8, [.int .i64 (.lit 0)]⟩), (30, ⟨.slice 3, 1, 24, [.nilsl]⟩)]
theorem Tx_subframe_same_c1_ok : TabOk Tryz.prog Tx_subframe_same_c1 := tab_ok [3, 30]
theorem x_subframe_same_c1 {y0 : Int} {y1 : List Int} {r : Bool} (h : subframe_same_c1 y0 y1 = some r) : ACalls Tryz.prog Gl 63 [e_i64 y0, .ptr 10000 0] [(10000, .var [.sl 1 e_i64 y1])] (fun x o' => x = .bool (.v r) ∧ o' = [(10000, .var [.sl 1 e_i64 y1])]) := by
  refine acalls_of' Tx_subframe_same_c1 Gl 9 [10000] Tryz.func63 Tx_subframe_same_c1_ok Tryz_mixed fun P hP _ => ?_
  unfold subframe_same_c1 at h
  conv => cbv
  refine .mk ?_
  conv => cbv
  refine den_elem h fun p1 _ h => ?_
  conv => cbv
  refine .mk [(10000, 10000, false)] [] rfl rfl ?_ ?_
  · conv => cbv
    cases h
    exact lp
  conv => cbv
  cases h
  exact lp
def Tx_slices_IndexFunc_sint_int_x2 : Tab := [(3, ⟨.int .i64, 1, 8, [.int .i64 (.lit 0)]⟩), (30, ⟨.slice 3, 1, 24, [.nilsl]⟩)]
theorem Tx_slices_IndexFunc_sint_int_x2_ok : TabOk Tryz.prog Tx_slices_IndexFunc_sint_int_x2 := tab_ok [3, 30]
theorem x_slices_IndexFunc_sint_int_x2 {y0 : List Int} {y1 : List Int} {r : Int} (h : slices_IndexFunc_sint_int_x2 y0 y1 = some r) : ACalls Tryz.prog Gl 84 [(e_sl 1 e_i64) y0, .fn 63 [] [.ptr 10000 0]] [(10000, .var [.sl 1 e_i64 y1])] (fun x o' => x = .int .i64 (.v r) ∧ o' = [(10000, .var [.sl 1 e_i64 y1])]) := by
  refine acalls_of' Tx_slices_IndexFunc_sint_int_x2 Gl 19 [10000] Tryz.func84 Tx_slices_IndexFunc_sint_int_x2_ok Tryz_mixed fun P hP _ => ?_
  unfold slices_IndexFunc_sint_int_x2 at h
  conv => cbv
  refine den_cut' (r := r) slices_IndexFunc_sint_int_x2_K1 (fun j1 => ⟨[], [(10000, .var [.sl 1 e_i64 y1])], []⟩) ?_ (fun j1 h => ?_)
  · conv => cbv
    refine den_loop' (slices_IndexFunc_sint_int_x2_L1 y0 y1) h (fun a2 => ⟨[(0, .sl 1 e_i64 y0), (1, .fn 63 [] [.ptr 10000 0]), (7, .int .i64 (.len y0)), (8, .int .i64 (.v a2))], [(10000, .var [.sl 1 e_i64 y1])], []⟩) (fun _ _ a2 x1 h hb1 hx1 => ?_)
    unfold slices_IndexFunc_sint_int_x2_L1 at h
    conv => cbv
    refine den_br h (fun _ h => ?_) (fun _ h => ?_)
    · conv => cbv
      refine .mk ?_
      conv => cbv
      refine den_elem h fun p3 _ h => ?_
      conv => cbv
      refine den_own' [(10000, 10000, false)] [] hP h (fun _ h => x_subframe_same_c1 h) fun r4 _ h => ?_
      conv => cbv
      refine den_br h (fun _ h => ?_) (fun _ h => ?_)
      · conv => cbv
        replace h := den_out h hx1
        refine .mk [(10000, 10000, false)] [] rfl rfl ?_ ?_
        · conv => cbv
          cases h
          exact lp
        conv => cbv
        cases h
        exact lp
      conv => cbv
      exact den_back' h hb1
    conv => cbv
    replace h := den_out h hx1
    exact den_join' h
  unfold slices_IndexFunc_sint_int_x2_K1 at h
  conv => cbv
  refine .mk [(10000, 10000, false)] [] rfl rfl ?_ ?_
  · conv => cbv
    cases h
    exact lp
  conv => cbv
  cases h
  exact lp
def Tx_slices_ContainsFunc_sint_int_x2 : Tab := []
theorem Tx_slices_ContainsFunc_sint_int_x2_ok : TabOk Tryz.prog Tx_slices_ContainsFunc_sint_int_x2 := tab_ok []
theorem x_slices_ContainsFunc_sint_int_x2 {y0 : List Int} {y1 : List Int} {r : Bool} (h : slices_ContainsFunc_sint_int_x2 y0 y1 = some r) : ACalls Tryz.prog Gl 61 [(e_sl 1 e_i64) y0, .fn 63 [] [.ptr 10000 0]] [(10000, .var [.sl 1 e_i64 y1])] (fun x o' => x = .bool (.v r) ∧ o' = [(10000, .var [.sl 1 e_i64 y1])]) := by
  refine acalls_of' Tx_slices_ContainsFunc_sint_int_x2 Gl 9 [10000] Tryz.func61 Tx_slices_ContainsFunc_sint_int_x2_ok Tryz_mixed fun P hP _ => ?_
  unfold slices_ContainsFunc_sint_int_x2 at h
  conv => cbv
  refine den_own' [(10000, 10000, false)] [] hP h (fun _ h => x_slices_IndexFunc_sint_int_x2 h) fun r1 _ h => ?_
  conv => cbv
  refine .mk [(10000, 10000, false)] [] rfl rfl ?_ ?_
  · conv => cbv
    cases h
    exact lp
  conv => cbv
  cases h
  exact lp
def T_subframe_same : Tab := [(30, ⟨.slice 3, 1, 24, [.nilsl]⟩)]
theorem T_subframe_same_ok : TabOk Tryz.prog T_subframe_same := tab_ok [30]
theorem v_subframe_same {y0 : List Int} {r : Bool} (h : subframe_same y0 = some r) : AVal Tryz.prog Gl 37 [(e_sl 1 e_i64) y0] (e_bool r) := by
  refine aval_of' T_subframe_same Gl 7 Tryz.func37 T_subframe_same_ok Tryz_mixed fun P hP _ => ?_
  unfold subframe_same at h
  conv => cbv
  refine den_own' [(1, 10000, false)] [] hP h (fun _ h => x_slices_ContainsFunc_sint_int_x2 h) fun r1 _ h => ?_
  conv => cbv
  cases h
  exact lp
def T_subframe_how : Tab := [(3, ⟨.int .i64, 1, 8, [.int .i64 (.lit 0)]⟩), (32, ⟨.struct [(0, 3), (1, 3), (2, 30)], 3, 40, [.int .i64 (.lit 0), .int .i64 (.lit 0), .nilsl]⟩), (36, ⟨.struct [(0, 3), (1, 3), (2, 3), (3, 32), (6, 34)], 10, 128, [.int .i64 (.lit 0), .int .i64 (.lit 0), .int .i64 (.lit 0), .int .i64 (.lit 0), .int .i64 (.lit 0), .nilsl, .int .i64 (.lit 0), .int .i64 (.lit 0), .nilsl, .nilsl]⟩)]
theorem T_subframe_how_ok : TabOk Tryz.prog T_subframe_how := tab_ok [3, 32, 36]
theorem v_subframe_how {y0 : subframe_Plan} {r : predict_Linear} (h : subframe_how y0 = some r) : AVal Tryz.prog Gl 40 [e_subframe_Plan y0] (e_predict_Linear r) := by
  refine aval_of' T_subframe_how Gl 17 Tryz.func40 T_subframe_how_ok Tryz_mixed fun P hP _ => ?_
  unfold subframe_how at h
  conv => cbv
  refine den_br h (fun _ h => ?_) (fun _ h => ?_)
  · conv => cbv
    refine den_call' hP h (fun _ h => v_predict_Fixed h) fun r1 _ h => ?_
    conv => cbv
    refine .mk ?_
    conv => cbv
    cases h
    exact lp
  conv => cbv
  cases h
  exact lp
def T_subframe_Best : Tab := [(3, ⟨.int .i64, 1, 8, [.int .i64 (.lit 0)]⟩), (30, ⟨.slice 3, 1, 24, [.nilsl]⟩), (34, ⟨.struct [(0, 3), (1, 3), (2, 30), (3, 30)], 4, 64, [.int .i64 (.lit 0), .int .i64 (.lit 0), .nilsl, .nilsl]⟩), (36, ⟨.struct [(0, 3), (1, 3), (2, 3), (3, 32), (6, 34)], 10, 128, [.int .i64 (.lit 0), .int .i64 (.lit 0), .int .i64 (.lit 0), .int .i64 (.lit 0), .int .i64 (.lit 0), .nilsl, .int .i64 (.lit 0), .int .i64 (.lit 0), .nilsl, .nilsl]⟩)]
theorem T_subframe_Best_ok : TabOk Tryz.prog T_subframe_Best := tab_ok [3, 30, 34, 36]
theorem v_subframe_Best {y0 : Int} {y1 : List Int} {r : subframe_Plan × Int} (h : subframe_Best y0 y1 = some r) : AVal Tryz.prog Gl 13 [e_i64 y0, (e_sl 1 e_i64) y1] (.tup [e_subframe_Plan r.1, e_i64 r.2]) := by
  refine aval_of' T_subframe_Best Gl 97 Tryz.func13 T_subframe_Best_ok Tryz_mixed fun P hP _ => ?_
  unfold subframe_Best at h
  conv => cbv
  refine den_call' hP h (fun _ h => v_subframe_sizes h) fun r1 _ h => ?_
  conv => cbv
  refine den_br h (fun _ h => ?_) (fun _ h => ?_)
  · conv => cbv
    cases h
    exact .tup _ _ lp
  conv => cbv
  refine den_call' hP h (fun _ h => v_subframe_fits h) fun r2 _ h => ?_
  conv => cbv
  refine den_br h (fun _ h => ?_) (fun _ h => ?_)
  · conv => cbv
    cases h
    exact .tup _ _ lp
  conv => cbv
  refine den_call' hP h (fun _ h => v_subframe_wasted h) fun r3 _ h => ?_
  conv => cbv
  refine .mk ?_
  conv => cbv
  refine den_call' hP h (fun _ h => v_subframe_less h) fun r4 _ h => ?_
  conv => cbv
  refine den_call' hP h (fun _ h => v_subframe_same h) fun r5 _ h => ?_
  conv => cbv
  refine den_br h (fun _ h => ?_) (fun _ h => ?_)
  · conv => cbv
    cases h
    exact .tup _ _ lp
  conv => cbv
  refine den_cut' (r := r) (subframe_Best_K1 y0 r3 r4) (fun j6 => ⟨[(0, .int .i64 (.v y0)), (4, .ptr 4 0), (7, .ptr 7 0), (8, .sl 1 e_i64 r4.1), (10, .ptr 10 0)], [(4, .var [.int .i64 (.lit 0), .int .i64 (.lit 0), .int .i64 (.lit 0), .int .i64 (.lit 0), .int .i64 (.lit 0), .nilsl, .int .i64 (.lit 0), .int .i64 (.lit 0), .nilsl, .nilsl]), (7, .var [.int .i64 (.lit 1), .int .i64 (.lit 0), .int .i64 (.v r3), .int .i64 (.lit 0), .int .i64 (.lit 0), .nilsl, .int .i64 (.lit 0), .int .i64 (.lit 0), .nilsl, .nilsl]), (10, .var [.int .i64 (.lit 2), .int .i64 (.v j6), .int .i64 (.v r3), .int .i64 (.lit 0), .int .i64 (.lit 0), .nilsl, .int .i64 (.lit 0), .int .i64 (.lit 0), .nilsl, .nilsl])], []⟩) ?_ (fun j6 h => ?_)
  · conv => cbv
    refine .mk (some [10]) (by kernel_rfl) ?_
    conv => cbv
    refine ⟨?_, ?_⟩
    · refine den_call' hP h (fun _ h => v_predict_Best h) fun r11 _ h => ?_
      conv => cbv
      refine .mk ?_
      conv => cbv
      exact den_join' h
    · refine den_call' hP h (fun _ h => v_predict_Best h) fun r12 _ h => ?_
      conv => cbv
      refine .mk ?_
      conv => cbv
      exact den_join' h
  unfold subframe_Best_K1 at h
  conv => cbv
  refine den_call' hP h (fun _ h => v_subframe_how h) fun r7 _ h => ?_
  conv => cbv
  refine .mk ?_
  conv => cbv
  refine den_call' hP h (fun _ h => v_predict_Residual h) fun r8 _ h => ?_
  conv => cbv
  refine den_call' hP h (fun _ h => v_rice_Best h) fun r9 _ h => ?_
  conv => cbv
  refine .mk ?_
  conv => cbv
  refine den_br h (fun _ h => ?_) (fun _ h => ?_)
  · conv => cbv
    cases h
    exact .tup _ _ lp
  conv => cbv
  refine .mk ?_
  conv => cbv
  refine den_call' hP h (fun _ h => v_rice_Size h) fun r10 _ h => ?_
  conv => cbv
  refine .mk ?_
  conv => cbv
  refine .mk ?_
  conv => cbv
  refine .mk ?_
  conv => cbv
  refine den_br h (fun _ h => ?_) (fun _ h => ?_)
  · conv => cbv
    cases h
    exact .tup _ _ lp
  conv => cbv
  cases h
  exact .tup _ _ lp
def T_subframe_shape : Tab := [(3, ⟨.int .i64, 1, 8, [.int .i64 (.lit 0)]⟩), (30, ⟨.slice 3, 1, 24, [.nilsl]⟩), (32, ⟨.struct [(0, 3), (1, 3), (2, 30)], 3, 40, [.int .i64 (.lit 0), .int .i64 (.lit 0), .nilsl]⟩), (34, ⟨.struct [(0, 3), (1, 3), (2, 30), (3, 30)], 4, 64, [.int .i64 (.lit 0), .int .i64 (.lit 0), .nilsl, .nilsl]⟩), (36, ⟨.struct [(0, 3), (1, 3), (2, 3), (3, 32), (6, 34)], 10, 128, [.int .i64 (.lit 0), .int .i64 (.lit 0), .int .i64 (.lit 0), .int .i64 (.lit 0), .int .i64 (.lit 0), .nilsl, .int .i64 (.lit 0), .int .i64 (.lit 0), .nilsl, .nilsl]⟩)]
theorem T_subframe_shape_ok : TabOk Tryz.prog T_subframe_shape := tab_ok [3, 30, 32, 34, 36]
theorem v_subframe_shape {y0 : subframe_Plan} {y1 : Int} {r : Int} (h : subframe_shape y0 y1 = some r) : AVal Tryz.prog Gl 74 [e_subframe_Plan y0, e_i64 y1] (e_i64 r) := by
  refine aval_of' T_subframe_shape Gl 119 Tryz.func74 T_subframe_shape_ok Tryz_mixed fun P hP _ => ?_
  unfold subframe_shape at h
  conv => cbv
  refine den_cut' (r := r) (subframe_shape_K1 y0 y1) (fun j1 => ⟨[(1, .int .i64 (.v y1)), (2, .ptr 2 0), (5, .int .i64 (.v j1.1)), (6, .int .i64 (.v j1.2))], [(2, .var [.int .i64 (.v y0.Kind), .int .i64 (.v y0.Order), .int .i64 (.v y0.Wasted), .int .i64 (.v y0.Linear.Precision), .int .i64 (.v y0.Linear.Shift), .sl 1 e_i64 y0.Linear.Coefs, .int .i64 (.v y0.Rice.Method), .int .i64 (.v y0.Rice.Order), .sl 1 e_i64 y0.Rice.Params, .sl 1 e_i64 y0.Rice.Bits])], []⟩) ?_ (fun j1 h => ?_)
  · conv => cbv
    refine den_br h (fun _ h => ?_) (fun _ h => ?_)
    · conv => cbv
      exact den_join' h
    conv => cbv
    refine den_br h (fun _ h => ?_) (fun _ h => ?_)
    · conv => cbv
      exact den_join' h
    conv => cbv
    exact den_join' h
  unfold subframe_shape_K1 at h
  conv => cbv
  refine .mk ?_
  conv => cbv
  refine .mk ?_
  conv => cbv
  refine .mk ?_
  conv => cbv
  refine .mk ?_
  conv => cbv
  refine .mk ?_
  conv => cbv
  refine .mk ?_
  conv => cbv
  refine .mk ?_
  conv => cbv
  refine .mk ?_
  conv => cbv
  refine .mk ?_
  conv => cbv
  refine .mk ?_
  conv => cbv
  refine .mk ?_
  conv => cbv
  refine .mk ?_
  conv => cbv
  refine den_br h (fun _ h => ?_) (fun _ h => ?_)
  · conv => cbv
    cases h
    exact lp
  conv => cbv
  refine .mk ?_
  conv => cbv
  refine .mk ?_
  conv => cbv
  refine .mk ?_
  conv => cbv
  refine .mk ?_
  conv => cbv
  refine .mk ?_
  conv => cbv
  refine den_br h (fun _ h => ?_) (fun _ h => ?_)
  · conv => cbv
    cases h
    exact lp
  conv => cbv
  cases h
  exact lp
def T_subframe_check : Tab := [(3, ⟨.int .i64, 1, 8, [.int .i64 (.lit 0)]⟩), (30, ⟨.slice 3, 1, 24, [.nilsl]⟩), (34, ⟨.struct [(0, 3), (1, 3), (2, 30), (3, 30)], 4, 64, [.int .i64 (.lit 0), .int .i64 (.lit 0), .nilsl, .nilsl]⟩), (36, ⟨.struct [(0, 3), (1, 3), (2, 3), (3, 32), (6, 34)], 10, 128, [.int .i64 (.lit 0), .int .i64 (.lit 0), .int .i64 (.lit 0), .int .i64 (.lit 0), .int .i64 (.lit 0), .nilsl, .int .i64 (.lit 0), .int .i64 (.lit 0), .nilsl, .nilsl]⟩)]
theorem T_subframe_check_ok : TabOk Tryz.prog T_subframe_check := tab_ok [3, 30, 34, 36]
theorem v_subframe_check {y0 : subframe_Plan} {y1 : Int} {y2 : List Int} {r : (List Int) × (List Int) × Int} (h : subframe_check y0 y1 y2 = some r) : AVal Tryz.prog Gl 43 [e_subframe_Plan y0, e_i64 y1, (e_sl 1 e_i64) y2] (.tup [(e_sl 1 e_i64) r.1, (e_sl 1 e_i64) r.2.1, e_i64 r.2.2]) := by
  refine aval_of' T_subframe_check Gl 94 Tryz.func43 T_subframe_check_ok Tryz_mixed fun P hP _ => ?_
  unfold subframe_check at h
  conv => cbv
  refine den_call' hP h (fun _ h => v_subframe_sizes h) fun r1 _ h => ?_
  conv => cbv
  refine den_br h (fun _ h => ?_) (fun _ h => ?_)
  · conv => cbv
    cases h
    exact .tup _ _ lp
  conv => cbv
  refine den_call' hP h (fun _ h => v_subframe_shape h) fun r2 _ h => ?_
  conv => cbv
  refine den_br h (fun _ h => ?_) (fun _ h => ?_)
  · conv => cbv
    cases h
    exact .tup _ _ lp
  conv => cbv
  refine .mk ?_
  conv => cbv
  refine den_call' hP h (fun _ h => v_subframe_less h) fun r3 _ h => ?_
  conv => cbv
  refine .mk ?_
  conv => cbv
  refine den_br h (fun _ h => ?_) (fun _ h => ?_)
  · conv => cbv
    cases h
    exact .tup _ _ lp
  conv => cbv
  refine den_call' hP h (fun _ h => v_subframe_fits h) fun r4 _ h => ?_
  conv => cbv
  refine den_br h (fun _ h => ?_) (fun _ h => ?_)
  · conv => cbv
    cases h
    exact .tup _ _ lp
  conv => cbv
  refine .mk ?_
  conv => cbv
  refine den_br h (fun _ h => ?_) (fun _ h => ?_)
  · conv => cbv
    refine den_call' hP h (fun _ h => v_subframe_same h) fun r5 _ h => ?_
    conv => cbv
    refine den_br h (fun _ h => ?_) (fun _ h => ?_)
    · conv => cbv
      cases h
      exact .tup _ _ lp
    conv => cbv
    refine den_br h (fun _ h => ?_) (fun _ h => ?_)
    · conv => cbv
      cases h
      exact .tup _ _ lp
    conv => cbv
    refine den_call' hP h (fun _ h => v_subframe_how h) fun r6 _ h => ?_
    conv => cbv
    refine den_call' hP h (fun _ h => v_predict_Check h) fun r7 _ h => ?_
    conv => cbv
    refine den_br h (fun _ h => ?_) (fun _ h => ?_)
    · conv => cbv
      cases h
      exact .tup _ _ lp
    conv => cbv
    refine .mk ?_
    conv => cbv
    refine den_call' hP h (fun _ h => v_rice_Check h) fun r8 _ h => ?_
    conv => cbv
    refine den_br h (fun _ h => ?_) (fun _ h => ?_)
    · conv => cbv
      cases h
      exact .tup _ _ lp
    conv => cbv
    refine den_call' hP h (fun _ h => v_subframe_how h) fun r9 _ h => ?_
    conv => cbv
    refine .mk ?_
    conv => cbv
    refine den_call' hP h (fun _ h => v_predict_Residual h) fun r10 _ h => ?_
    conv => cbv
    refine den_cut' (r := r) (subframe_check_K1 r3 r10) (fun j11 => ⟨[(6, .sl 1 e_i64 r3.1), (7, .sl 1 e_i64 r10.1), (8, .int .i64 (.v j11))], [], []⟩) ?_ (fun j11 h => ?_)
    · conv => cbv
      refine den_br h (fun _ h => ?_) (fun _ h => ?_)
      · conv => cbv
        refine .mk ?_
        conv => cbv
        refine den_call' hP h (fun _ h => v_rice_Size h) fun r12 _ h => ?_
        conv => cbv
        exact den_join' h
      conv => cbv
      exact den_join' h
    unfold subframe_check_K1 at h
    conv => cbv
    refine .mk ?_
    conv => cbv
    cases h
    exact lp
  conv => cbv
  refine den_br h (fun _ h => ?_) (fun _ h => ?_)
  · conv => cbv
    cases h
    exact .tup _ _ lp
  conv => cbv
  refine den_call' hP h (fun _ h => v_subframe_how h) fun r13 _ h => ?_
  conv => cbv
  refine den_call' hP h (fun _ h => v_predict_Check h) fun r14 _ h => ?_
  conv => cbv
  refine den_br h (fun _ h => ?_) (fun _ h => ?_)
  · conv => cbv
    cases h
    exact .tup _ _ lp
  conv => cbv
  refine .mk ?_
  conv => cbv
  refine den_call' hP h (fun _ h => v_rice_Check h) fun r15 _ h => ?_
  conv => cbv
  refine den_br h (fun _ h => ?_) (fun _ h => ?_)
  · conv => cbv
    cases h
    exact .tup _ _ lp
  conv => cbv
  refine den_call' hP h (fun _ h => v_subframe_how h) fun r16 _ h => ?_
  conv => cbv
  refine .mk ?_
  conv => cbv
  refine den_call' hP h (fun _ h => v_predict_Residual h) fun r17 _ h => ?_
  conv => cbv
  refine den_cut' (r := r) (subframe_check_K1 r3 r17) (fun j18 => ⟨[(6, .sl 1 e_i64 r3.1), (7, .sl 1 e_i64 r17.1), (8, .int .i64 (.v j18))], [], []⟩) ?_ (fun j18 h => ?_)
  · conv => cbv
    refine den_br h (fun _ h => ?_) (fun _ h => ?_)
    · conv => cbv
      refine .mk ?_
      conv => cbv
      refine den_call' hP h (fun _ h => v_rice_Size h) fun r19 _ h => ?_
      conv => cbv
      exact den_join' h
    conv => cbv
    exact den_join' h
  unfold subframe_check_K1 at h
  conv => cbv
  refine .mk ?_
  conv => cbv
  cases h
  exact lp
def Tx_subframe_Write : Tab := [(3, ⟨.int .i64, 1, 8, [.int .i64 (.lit 0)]⟩), (5, ⟨.int .u8, 1, 1, [.int .u8 (.lit 0)]⟩), (30, ⟨.slice 3, 1, 24, [.nilsl]⟩), (32, ⟨.struct [(0, 3), (1, 3), (2, 30)], 3, 40, [.int .i64 (.lit 0), .int .i64 (.lit 0), .nilsl]⟩), (34, ⟨.struct [(0, 3), (1, 3), (2, 30), (3, 30)], 4, 64, [.int .i64 (.lit 0), .int .i64 (.lit 0), .nilsl, .nilsl]⟩), (36, ⟨.struct [(0, 3), (1, 3), (2, 3), (3, 32), (6, 34)], 10, 128, [.int .i64 (.lit 0), .int .i64 (.lit 0), .int .i64 (.lit 0), .int .i64 (.lit 0), .int .i64 (.lit 0), .nilsl, .int .i64 (.lit 0), .int .i64 (.lit 0), .nilsl, .nilsl]⟩), (51, ⟨.ptr 89, 1, 8, [.nilptr]⟩)]
theorem Tx_subframe_Write_ok : TabOk Tryz.prog Tx_subframe_Write := tab_ok [3, 5, 30, 32, 34, 36, 51]
theorem x_subframe_Write {y0 : subframe_Plan} {y1 : Int} {y2 : List Int} {y3 : Int} {y4 : List Int} {r : Int × Int × (List Int)} (h : subframe_Write y0 y1 y2 y3 y4 = some r) : ACalls Tryz.prog Gl 15 [.ptr 10000 0, e_subframe_Plan y0, e_i64 y1, (e_sl 1 e_i64) y2] [(10000, .var [.int .i64 (.v y3), .osl 10001]), (10001, .arr false 5 1 e_u8 y4)] (fun x o' => x = .int .i64 (.v r.1) ∧ o' = [(10000, .var [.int .i64 (.v r.2.1), .osl 10001]), (10001, .arr false 5 1 e_u8 r.2.2)]) := by
  refine acalls_of' Tx_subframe_Write Gl 123 [10000] Tryz.func15 Tx_subframe_Write_ok Tryz_mixed fun P hP _ => ?_
  unfold subframe_Write at h
  conv => cbv
  refine den_call' hP h (fun _ h => v_subframe_check h) fun r1 _ h => ?_
  conv => cbv
  refine .mk ?_
  conv => cbv
  refine den_br h (fun _ h => ?_) (fun _ h => ?_)
  · conv => cbv
    refine .mk [(10000, 10000, false), (10001, 10001, false)] [] rfl rfl ?_ ?_
    · conv => cbv
      cases h
      exact ⟨.var _ _ lp, .arr _ _ _ _ _ _ rfl, trivial⟩
    conv => cbv
    cases h
    exact lp
  conv => cbv
  refine .mk ?_
  conv => cbv
  refine .mk ?_
  conv => cbv
  refine .data ?_
  conv => cbv
  refine den_elemV (f := e_i64) lp h fun p2 _ h => ?_
  conv => cbv
  refine den_own' [(10000, 10000, false), (10001, 10001, true)] [] hP h (fun _ h => x_bits_Writer_Put h) fun r3 _ h => ?_
  conv => cbv
  refine den_cut' (r := r) (subframe_Write_K1 y0 y1 r1) (fun j4 => ⟨[(0, .ptr 10000 0), (2, .int .i64 (.v y1)), (5, .ptr 5 0), (9, .sl 1 e_i64 r1.1), (10, .sl 1 e_i64 r1.2.1)], [(5, .var [.int .i64 (.v y0.Kind), .int .i64 (.v y0.Order), .int .i64 (.v y0.Wasted), .int .i64 (.v y0.Linear.Precision), .int .i64 (.v y0.Linear.Shift), .sl 1 e_i64 y0.Linear.Coefs, .int .i64 (.v y0.Rice.Method), .int .i64 (.v y0.Rice.Order), .sl 1 e_i64 y0.Rice.Params, .sl 1 e_i64 y0.Rice.Bits]), (10000, .var [.int .i64 (.v j4.1), .osl 10001]), (10001, .arr false 5 1 e_u8 j4.2)], []⟩) ?_ (fun j4 h => ?_)
  · conv => cbv
    refine den_br h (fun _ h => ?_) (fun _ h => ?_)
    · conv => cbv
      refine den_own' [(10000, 10000, false), (10001, 10001, true)] [] hP h (fun _ h => x_bits_Writer_Put h) fun r21 _ h => ?_
      conv => cbv
      exact den_join' h
    conv => cbv
    refine den_own' [(10000, 10000, false), (10001, 10001, true)] [] hP h (fun _ h => x_bits_Writer_Put h) fun r22 _ h => ?_
    conv => cbv
    obtain ⟨t23, ht23, h⟩ := den_let h
    refine den_own' [(10000, 10000, false), (10001, 10001, true)] [] hP h (fun _ h => x_bits_Writer_Unary h) fun r24 _ h => ?_
    conv => cbv
    exact den_join' h
  unfold subframe_Write_K1 at h
  conv => cbv
  refine .mk ?_
  conv => cbv
  refine .mk ?_
  conv => cbv
  refine .data ?_
  conv => cbv
  refine den_elemV (f := e_i64) lp h fun p5 _ h => ?_
  conv => cbv
  refine den_cut' (r := r) (subframe_Write_K2 y0 r1) (fun j6 => ⟨[(0, .ptr 10000 0), (5, .ptr 5 0), (10, .sl 1 e_i64 r1.2.1)], [(5, .var [.int .i64 (.v y0.Kind), .int .i64 (.v y0.Order), .int .i64 (.v y0.Wasted), .int .i64 (.v y0.Linear.Precision), .int .i64 (.v y0.Linear.Shift), .sl 1 e_i64 y0.Linear.Coefs, .int .i64 (.v y0.Rice.Method), .int .i64 (.v y0.Rice.Order), .sl 1 e_i64 y0.Rice.Params, .sl 1 e_i64 y0.Rice.Bits]), (10000, .var [.int .i64 (.v j6.1), .osl 10001]), (10001, .arr false 5 1 e_u8 j6.2)], []⟩) ?_ (fun j6 h => ?_)
  · conv => cbv
    refine den_sub h fun l16 _ h => ?_
    conv => cbv
    refine den_loop' (subframe_Write_L2 y0 y1 r1 l16) h (fun a17 => ⟨[(0, .ptr 10000 0), (2, .int .i64 (.v y1)), (5, .ptr 5 0), (10, .sl 1 e_i64 r1.2.1), (70, .sl 1 e_i64 l16), (71, .int .i64 (.len l16)), (72, .int .i64 (.v a17.1))], [(5, .var [.int .i64 (.v y0.Kind), .int .i64 (.v y0.Order), .int .i64 (.v y0.Wasted), .int .i64 (.v y0.Linear.Precision), .int .i64 (.v y0.Linear.Shift), .sl 1 e_i64 y0.Linear.Coefs, .int .i64 (.v y0.Rice.Method), .int .i64 (.v y0.Rice.Order), .sl 1 e_i64 y0.Rice.Params, .sl 1 e_i64 y0.Rice.Bits]), (10000, .var [.int .i64 (.v a17.2.1), .osl 10001]), (10001, .arr false 5 1 e_u8 a17.2.2)], []⟩) (fun _ _ a17 x1 h hb1 hx1 => ?_)
    unfold subframe_Write_L2 at h
    conv => cbv
    refine den_br h (fun _ h => ?_) (fun _ h => ?_)
    · conv => cbv
      refine den_elem h fun p18 _ h => ?_
      conv => cbv
      refine .mk ?_
      conv => cbv
      obtain ⟨t19, ht19, h⟩ := den_let h
      refine den_own' [(10000, 10000, false), (10001, 10001, true)] [] hP h (fun _ h => x_bits_Writer_Signed h) fun r20 _ h => ?_
      conv => cbv
      exact den_back' h hb1
    conv => cbv
    replace h := den_out h hx1
    exact den_join' h
  unfold subframe_Write_K2 at h
  conv => cbv
  refine den_cut' (r := r) (subframe_Write_K3 j6) (fun j7 => ⟨[], [(10000, .var [.int .i64 (.v j6.1), .osl 10001]), (10001, .arr false 5 1 e_u8 j6.2)], []⟩) ?_ (fun j7 h => ?_)
  · conv => cbv
    refine den_cut' (r := r) (subframe_Write_K4 y0 r1) (fun j8 => ⟨[(0, .ptr 10000 0), (5, .ptr 5 0), (10, .sl 1 e_i64 r1.2.1)], [(5, .var [.int .i64 (.v y0.Kind), .int .i64 (.v y0.Order), .int .i64 (.v y0.Wasted), .int .i64 (.v y0.Linear.Precision), .int .i64 (.v y0.Linear.Shift), .sl 1 e_i64 y0.Linear.Coefs, .int .i64 (.v y0.Rice.Method), .int .i64 (.v y0.Rice.Order), .sl 1 e_i64 y0.Rice.Params, .sl 1 e_i64 y0.Rice.Bits]), (10000, .var [.int .i64 (.v j8.1), .osl 10001]), (10001, .arr false 5 1 e_u8 j8.2)], []⟩) ?_ (fun j8 h => ?_)
    · conv => cbv
      refine den_br h (fun _ h => ?_) (fun _ h => ?_)
      · conv => cbv
        refine .mk ?_
        conv => cbv
        obtain ⟨t10, ht10, h⟩ := den_let h
        refine den_own' [(10000, 10000, false), (10001, 10001, true)] [] hP h (fun _ h => x_bits_Writer_Put h) fun r11 _ h => ?_
        conv => cbv
        refine den_own' [(10000, 10000, false), (10001, 10001, true)] [] hP h (fun _ h => x_bits_Writer_Signed h) fun r12 _ h => ?_
        conv => cbv
        refine den_loop' (subframe_Write_L1 y0 r1) h (fun a13 => ⟨[(0, .ptr 10000 0), (5, .ptr 5 0), (10, .sl 1 e_i64 r1.2.1), (103, .sl 1 e_i64 y0.Linear.Coefs), (104, .int .i64 (.len y0.Linear.Coefs)), (105, .int .i64 (.v a13.1))], [(5, .var [.int .i64 (.v y0.Kind), .int .i64 (.v y0.Order), .int .i64 (.v y0.Wasted), .int .i64 (.v y0.Linear.Precision), .int .i64 (.v y0.Linear.Shift), .sl 1 e_i64 y0.Linear.Coefs, .int .i64 (.v y0.Rice.Method), .int .i64 (.v y0.Rice.Order), .sl 1 e_i64 y0.Rice.Params, .sl 1 e_i64 y0.Rice.Bits]), (10000, .var [.int .i64 (.v a13.2.1), .osl 10001]), (10001, .arr false 5 1 e_u8 a13.2.2)], []⟩) (fun _ _ a13 x1 h hb1 hx1 => ?_)
        unfold subframe_Write_L1 at h
        conv => cbv
        refine den_br h (fun _ h => ?_) (fun _ h => ?_)
        · conv => cbv
          refine den_elem h fun p14 _ h => ?_
          conv => cbv
          refine .mk ?_
          conv => cbv
          refine den_own' [(10000, 10000, false), (10001, 10001, true)] [] hP h (fun _ h => x_bits_Writer_Signed h) fun r15 _ h => ?_
          conv => cbv
          exact den_back' h hb1
        conv => cbv
        replace h := den_out h hx1
        exact den_join' h
      conv => cbv
      refine den_br h (fun _ h => ?_) (fun _ h => ?_)
      · conv => cbv
        exact den_join' h
      conv => cbv
      exact den_join' h
    unfold subframe_Write_K4 at h
    conv => cbv
    refine .mk ?_
    conv => cbv
    refine den_own' [(10000, 10000, false), (10001, 10001, true)] [] hP h (fun _ h => x_rice_Write h) fun r9 _ h => ?_
    conv => cbv
    refine .mk [(10000, 10000, false), (10001, 10001, false)] [] rfl rfl ?_ ?_
    · conv => cbv
      cases h
      exact ⟨.var _ _ lp, .arr _ _ _ _ _ _ rfl, trivial⟩
    conv => cbv
    cases h
    exact lp
  unfold subframe_Write_K3 at h
  conv => cbv
  refine .mk [(10000, 10000, false), (10001, 10001, false)] [] rfl rfl ?_ ?_
  · conv => cbv
    cases h
    exact ⟨.var _ _ lp, .arr _ _ _ _ _ _ rfl, trivial⟩
  conv => cbv
  cases h
  exact lp
def Tx_subframe_reader_told : Tab := [(27, ⟨.int .i64, 1, 8, [.int .i64 (.lit 0)]⟩), (64, ⟨.struct [(0, 25), (1, 27)], 2, 16, [.nilptr, .int .i64 (.lit 0)]⟩)]
theorem Tx_subframe_reader_told_ok : TabOk Tryz.prog Tx_subframe_reader_told := tab_ok [27, 64]
theorem x_subframe_reader_told {y0 : Int} {y1 : Int} {y2 : Int} {y3 : bits_Reader} {r : Int × Int} (h : subframe_reader_told y0 y1 y2 y3 = some r) : ACalls Tryz.prog Gl 78 [.ptr 10000 0, e_i64 y0, e_i64 y1] [(10000, .var [.ptr 10001 0, .int .i64 (.v y2)]), (10001, .var [.int .i64 (.v y3.m_place.m_at), .sl 1 e_u8 y3.m_b])] (fun x o' => x = .int .i64 (.v r.1) ∧ o' = [(10000, .var [.ptr 10001 0, .int .i64 (.v r.2)]), (10001, .var [.int .i64 (.v y3.m_place.m_at), .sl 1 e_u8 y3.m_b])]) := by
  refine acalls_of' Tx_subframe_reader_told Gl 17 [10000, 10001] Tryz.func78 Tx_subframe_reader_told_ok Tryz_mixed fun P hP _ => ?_
  unfold subframe_reader_told at h
  conv => cbv
  refine den_br h (fun _ h => ?_) (fun _ h => ?_)
  · conv => cbv
    refine .mk [(10000, 10000, false), (10001, 10001, false)] [] rfl rfl ?_ ?_
    · conv => cbv
      cases h
      exact ⟨.var _ _ lp, .same _, trivial⟩
    conv => cbv
    cases h
    exact lp
  conv => cbv
  refine .mk [(10000, 10000, false), (10001, 10001, false)] [] rfl rfl ?_ ?_
  · conv => cbv
    cases h
    exact ⟨.var _ _ lp, .same _, trivial⟩
  conv => cbv
  cases h
  exact lp
def Tx_subframe_reader_take : Tab := [(25, ⟨.ptr 60, 1, 8, [.nilptr]⟩), (64, ⟨.struct [(0, 25), (1, 27)], 2, 16, [.nilptr, .int .i64 (.lit 0)]⟩)]
theorem Tx_subframe_reader_take_ok : TabOk Tryz.prog Tx_subframe_reader_take := tab_ok [25, 64]
theorem x_subframe_reader_take {y0 : Int} {y1 : Int} {y2 : bits_Reader} {r : Int × Int × Int} (h : subframe_reader_take y0 y1 y2 = some r) : ACalls Tryz.prog Gl 77 [.ptr 10000 0, e_i64 y0] [(10000, .var [.ptr 10001 0, .int .i64 (.v y1)]), (10001, .var [.int .i64 (.v y2.m_place.m_at), .sl 1 e_u8 y2.m_b])] (fun x o' => x = .int .i64 (.v r.1) ∧ o' = [(10000, .var [.ptr 10001 0, .int .i64 (.v r.2.1)]), (10001, .var [.int .i64 (.v r.2.2), .sl 1 e_u8 y2.m_b])]) := by
  refine acalls_of' Tx_subframe_reader_take Gl 15 [10000, 10001] Tryz.func77 Tx_subframe_reader_take_ok Tryz_mixed fun P hP _ => ?_
  unfold subframe_reader_take at h
  conv => cbv
  refine .mk ?_
  conv => cbv
  refine den_own' [(10001, 10000, false)] [] hP h (fun _ h => x_bits_Reader_Take h) fun r1 _ h => ?_
  conv => cbv
  refine den_own' [(10000, 10000, false), (10001, 10001, false)] [] hP h (fun _ h => x_subframe_reader_told h) fun r2 _ h => ?_
  conv => cbv
  refine .mk [(10000, 10000, false), (10001, 10001, false)] [] rfl rfl ?_ ?_
  · conv => cbv
    cases h
    exact ⟨.var _ _ lp, .var _ _ lp, trivial⟩
  conv => cbv
  cases h
  exact lp
def Tx_subframe_reader_wrong : Tab := [(27, ⟨.int .i64, 1, 8, [.int .i64 (.lit 0)]⟩), (64, ⟨.struct [(0, 25), (1, 27)], 2, 16, [.nilptr, .int .i64 (.lit 0)]⟩)]
theorem Tx_subframe_reader_wrong_ok : TabOk Tryz.prog Tx_subframe_reader_wrong := tab_ok [27, 64]
theorem x_subframe_reader_wrong {y0 : Bool} {y1 : Int} {y2 : Int} {y3 : bits_Reader} {r : Int} (h : subframe_reader_wrong y0 y1 y2 y3 = some r) : ACalls Tryz.prog Gl 54 [.ptr 10000 0, e_bool y0, e_i64 y1] [(10000, .var [.ptr 10001 0, .int .i64 (.v y2)]), (10001, .var [.int .i64 (.v y3.m_place.m_at), .sl 1 e_u8 y3.m_b])] (fun x o' => x = .tup [] ∧ o' = [(10000, .var [.ptr 10001 0, .int .i64 (.v r)]), (10001, .var [.int .i64 (.v y3.m_place.m_at), .sl 1 e_u8 y3.m_b])]) := by
  refine acalls_of' Tx_subframe_reader_wrong Gl 18 [10000, 10001] Tryz.func54 Tx_subframe_reader_wrong_ok Tryz_mixed fun P hP _ => ?_
  unfold subframe_reader_wrong at h
  conv => cbv
  refine .mk ?_
  conv => cbv
  refine den_br h (fun _ h => ?_) (fun _ h => ?_)
  · conv => cbv
    refine .mk [(10000, 10000, false), (10001, 10001, false)] [] rfl rfl ?_ ?_
    · conv => cbv
      cases h
      exact ⟨.var _ _ lp, .same _, trivial⟩
    conv => cbv
    cases h
    exact lp
  conv => cbv
  refine .mk [(10000, 10000, false), (10001, 10001, false)] [] rfl rfl ?_ ?_
  · conv => cbv
    cases h
    exact ⟨.var _ _ lp, .same _, trivial⟩
  conv => cbv
  cases h
  exact lp
def Tx_subframe_reader_head : Tab := [(3, ⟨.int .i64, 1, 8, [.int .i64 (.lit 0)]⟩), (25, ⟨.ptr 60, 1, 8, [.nilptr]⟩), (36, ⟨.struct [(0, 3), (1, 3), (2, 3), (3, 32), (6, 34)], 10, 128, [.int .i64 (.lit 0), .int .i64 (.lit 0), .int .i64 (.lit 0), .int .i64 (.lit 0), .int .i64 (.lit 0), .nilsl, .int .i64 (.lit 0), .int .i64 (.lit 0), .nilsl, .nilsl]⟩), (64, ⟨.struct [(0, 25), (1, 27)], 2, 16, [.nilptr, .int .i64 (.lit 0)]⟩)]
theorem Tx_subframe_reader_head_ok : TabOk Tryz.prog Tx_subframe_reader_head := tab_ok [3, 25, 36, 64]
theorem x_subframe_reader_head {y0 : Int} {y1 : Int} {y2 : bits_Reader} {r : Int × Int × Int × Int × Int} (h : subframe_reader_head y0 y1 y2 = some r) : ACalls Tryz.prog Gl 48 [.ptr 10000 0, e_i64 y0] [(10000, .var [.ptr 10001 0, .int .i64 (.v y1)]), (10001, .var [.int .i64 (.v y2.m_place.m_at), .sl 1 e_u8 y2.m_b])] (fun x o' => x = .agg [.int .i64 (.v r.1), .int .i64 (.v r.2.1), .int .i64 (.v r.2.2.1), .int .i64 (.lit 0), .int .i64 (.lit 0), .nilsl, .int .i64 (.lit 0), .int .i64 (.lit 0), .nilsl, .nilsl] ∧ o' = [(10000, .var [.ptr 10001 0, .int .i64 (.v r.2.2.2.1)]), (10001, .var [.int .i64 (.v r.2.2.2.2), .sl 1 e_u8 y2.m_b])]) := by
  refine acalls_of' Tx_subframe_reader_head Gl 60 [10000, 10001] Tryz.func48 Tx_subframe_reader_head_ok Tryz_mixed fun P hP _ => ?_
  unfold subframe_reader_head at h
  conv => cbv
  refine den_own' [(10000, 10000, false), (10001, 10001, false)] [] hP h (fun _ h => x_subframe_reader_take h) fun r1 _ h => ?_
  conv => cbv
  obtain ⟨t2, ht2, h⟩ := den_let h
  refine den_own' [(10000, 10000, false), (10001, 10001, false)] [] hP h (fun _ h => x_subframe_reader_wrong h) fun r3 _ h => ?_
  conv => cbv
  refine den_own' [(10000, 10000, false), (10001, 10001, false)] [] hP h (fun _ h => x_subframe_reader_take h) fun r4 _ h => ?_
  conv => cbv
  refine den_cut' (r := r) (subframe_reader_head_K1 y0 y2 r4) (fun j5 => ⟨[(0, .ptr 10000 0), (1, .int .i64 (.v y0)), (4, .ptr 4 0), (5, .ptr 5 0)], [(4, .var [.int .i64 (.lit 0), .int .i64 (.lit 0), .int .i64 (.lit 0), .int .i64 (.lit 0), .int .i64 (.lit 0), .nilsl, .int .i64 (.lit 0), .int .i64 (.lit 0), .nilsl, .nilsl]), (5, .var [.int .i64 (.v j5.2.1), .int .i64 (.v j5.2.2), .int .i64 (.lit 0), .int .i64 (.lit 0), .int .i64 (.lit 0), .nilsl, .int .i64 (.lit 0), .int .i64 (.lit 0), .nilsl, .nilsl]), (10000, .var [.ptr 10001 0, .int .i64 (.v j5.1)]), (10001, .var [.int .i64 (.v r4.2.2), .sl 1 e_u8 y2.m_b])], []⟩) ?_ (fun j5 h => ?_)
  · conv => cbv
    refine den_br h (fun _ h => ?_) (fun _ h => ?_)
    · conv => cbv
      exact den_join' h
    conv => cbv
    refine .mk ?_
    conv => cbv
    refine den_br h (fun _ h => ?_) (fun _ h => ?_)
    · conv => cbv
      refine .mk ?_
      conv => cbv
      exact den_join' h
    conv => cbv
    refine den_br h (fun _ h => ?_) (fun _ h => ?_)
    · conv => cbv
      refine .mk ?_
      conv => cbv
      exact den_join' h
    conv => cbv
    refine den_own' [(10000, 10000, false), (10001, 10001, false)] [] hP h (fun _ h => x_subframe_reader_wrong h) fun r12 _ h => ?_
    conv => cbv
    exact den_join' h
  unfold subframe_reader_head_K1 at h
  conv => cbv
  refine den_cut' (r := r) (subframe_reader_head_K2 j5) (fun j6 => ⟨[(4, .ptr 4 0), (5, .ptr 5 0)], [(4, .var [.int .i64 (.lit 0), .int .i64 (.lit 0), .int .i64 (.lit 0), .int .i64 (.lit 0), .int .i64 (.lit 0), .nilsl, .int .i64 (.lit 0), .int .i64 (.lit 0), .nilsl, .nilsl]), (5, .var [.int .i64 (.v j5.2.1), .int .i64 (.v j5.2.2), .int .i64 (.v j6.2.2), .int .i64 (.lit 0), .int .i64 (.lit 0), .nilsl, .int .i64 (.lit 0), .int .i64 (.lit 0), .nilsl, .nilsl]), (10000, .var [.ptr 10001 0, .int .i64 (.v j6.1)]), (10001, .var [.int .i64 (.v j6.2.1), .sl 1 e_u8 y2.m_b])], []⟩) ?_ (fun j6 h => ?_)
  · conv => cbv
    refine den_own' [(10000, 10000, false), (10001, 10001, false)] [] hP h (fun _ h => x_subframe_reader_take h) fun r7 _ h => ?_
    conv => cbv
    refine den_br h (fun _ h => ?_) (fun _ h => ?_)
    · conv => cbv
      refine .mk ?_
      conv => cbv
      refine den_own' [(10001, 10000, false)] [] hP h (fun _ h => x_bits_Reader_Unary h) fun r8 _ h => ?_
      conv => cbv
      refine .mk ?_
      conv => cbv
      refine den_own' [(10000, 10000, false), (10001, 10001, false)] [] hP h (fun _ h => x_subframe_reader_told h) fun r9 _ h => ?_
      conv => cbv
      refine .mk ?_
      conv => cbv
      obtain ⟨t10, ht10, h⟩ := den_let h
      refine den_own' [(10000, 10000, false), (10001, 10001, false)] [] hP h (fun _ h => x_subframe_reader_wrong h) fun r11 _ h => ?_
      conv => cbv
      exact den_join' h
    conv => cbv
    exact den_join' h
  unfold subframe_reader_head_K2 at h
  conv => cbv
  refine .mk [(10000, 10000, false), (10001, 10001, false)] [] rfl rfl ?_ ?_
  · conv => cbv
    cases h
    exact ⟨.var _ _ lp, .var _ _ lp, trivial⟩
  conv => cbv
  cases h
  exact .cons _ _ _ _ (.agg _ _ lp) .nil
def Tx_subframe_reader_signed : Tab := [(25, ⟨.ptr 60, 1, 8, [.nilptr]⟩), (64, ⟨.struct [(0, 25), (1, 27)], 2, 16, [.nilptr, .int .i64 (.lit 0)]⟩)]
theorem Tx_subframe_reader_signed_ok : TabOk Tryz.prog Tx_subframe_reader_signed := tab_ok [25, 64]
theorem x_subframe_reader_signed {y0 : Int} {y1 : Int} {y2 : bits_Reader} {r : Int × Int × Int} (h : subframe_reader_signed y0 y1 y2 = some r) : ACalls Tryz.prog Gl 49 [.ptr 10000 0, e_i64 y0] [(10000, .var [.ptr 10001 0, .int .i64 (.v y1)]), (10001, .var [.int .i64 (.v y2.m_place.m_at), .sl 1 e_u8 y2.m_b])] (fun x o' => x = .int .i64 (.v r.1) ∧ o' = [(10000, .var [.ptr 10001 0, .int .i64 (.v r.2.1)]), (10001, .var [.int .i64 (.v r.2.2), .sl 1 e_u8 y2.m_b])]) := by
  refine acalls_of' Tx_subframe_reader_signed Gl 15 [10000, 10001] Tryz.func49 Tx_subframe_reader_signed_ok Tryz_mixed fun P hP _ => ?_
  unfold subframe_reader_signed at h
  conv => cbv
  refine .mk ?_
  conv => cbv
  refine den_own' [(10001, 10000, false)] [] hP h (fun _ h => x_bits_Reader_Signed h) fun r1 _ h => ?_
  conv => cbv
  refine den_own' [(10000, 10000, false), (10001, 10001, false)] [] hP h (fun _ h => x_subframe_reader_told h) fun r2 _ h => ?_
  conv => cbv
  refine .mk [(10000, 10000, false), (10001, 10001, false)] [] rfl rfl ?_ ?_
  · conv => cbv
    cases h
    exact ⟨.var _ _ lp, .var _ _ lp, trivial⟩
  conv => cbv
  cases h
  exact lp
def T_math_bits_Mul64 : Tab := []
theorem T_math_bits_Mul64_ok : TabOk Tryz.prog T_math_bits_Mul64 := tab_ok []
theorem v_math_bits_Mul64 {y0 : Int} {y1 : Int} {r : Int × Int} (h : math_bits_Mul64 y0 y1 = some r) : AVal Tryz.prog Gl 95 [e_u64 y0, e_u64 y1] (.tup [e_u64 r.1, e_u64 r.2]) := by
  refine aval_of' T_math_bits_Mul64 Gl 51 Tryz.func95 T_math_bits_Mul64_ok Tryz_mixed fun P hP _ => ?_
  unfold math_bits_Mul64 at h
  conv => cbv
  refine .mk ?_
  conv => cbv
  refine .mk ?_
  conv => cbv
  refine .mk ?_
  conv => cbv
  cases h
  exact .tup _ _ lp
def T_math_bits_Mul : Tab := []
theorem T_math_bits_Mul_ok : TabOk Tryz.prog T_math_bits_Mul := tab_ok []
theorem v_math_bits_Mul {y0 : Int} {y1 : Int} {r : Int × Int} (h : math_bits_Mul y0 y1 = some r) : AVal Tryz.prog Gl 81 [e_u64 y0, e_u64 y1] (.tup [e_u64 r.1, e_u64 r.2]) := by
  refine aval_of' T_math_bits_Mul Gl 30 Tryz.func81 T_math_bits_Mul_ok Tryz_mixed fun P hP _ => ?_
  unfold math_bits_Mul at h
  conv => cbv
  refine .mk ?_
  conv => cbv
  refine den_call' hP h (fun _ h => v_math_bits_Mul64 h) fun r1 _ h => ?_
  conv => cbv
  cases h
  exact lp
def Tx_slices_Repeat_sint_int : Tab := [(3, ⟨.int .i64, 1, 8, [.int .i64 (.lit 0)]⟩), (30, ⟨.slice 3, 1, 24, [.nilsl]⟩), (109, ⟨.int .u64, 1, 8, [.int .u64 (.lit 0)]⟩)]
theorem Tx_slices_Repeat_sint_int_ok : TabOk Tryz.prog Tx_slices_Repeat_sint_int := tab_ok [3, 30, 109]
theorem x_slices_Repeat_sint_int {y0 : List Int} {y1 : Int} {r : (List Int)} (h : slices_Repeat_sint_int y0 y1 = some r) : ACalls Tryz.prog Gl 50 [(e_sl 1 e_i64) y0, e_i64 y1] [] (fun x o' => x = .osl 20000 ∧ o' = [(20000, .arr false 3 1 e_i64 r)]) := by
  refine acalls_of' Tx_slices_Repeat_sint_int Gl 48 [] Tryz.func50 Tx_slices_Repeat_sint_int_ok Tryz_mixed fun P hP _ => ?_
  unfold slices_Repeat_sint_int at h
  conv => cbv
  refine den_br h (fun _ h => ?_) (fun _ h => ?_)
  · conv => cbv
    exact den_none h
  conv => cbv
  refine .mk ?_
  conv => cbv
  refine den_call' hP h (fun _ h => v_math_bits_Mul h) fun r1 _ h => ?_
  conv => cbv
  refine .mk ?_
  conv => cbv
  refine den_br h (fun _ h => ?_) (fun _ h => ?_)
  · conv => cbv
    exact den_none h
  conv => cbv
  refine den_make e_i64 (x := (0 : Int)) h lp fun l2 _ h => ?_
  conv => cbv
  refine den_copy e_i64 0 (l2.length : Int) (xs := y0) h rfl (.inl ⟨rfl, rfl, rfl⟩) (News.map rfl) (fun h => ?_) (fun c3 _ h => ?_)
  · conv => cbv
    refine den_cut' (r := r) slices_Repeat_sint_int_K1 (fun j4 => ⟨[(7, .osl 30)], [(30, .arr false 3 1 e_i64 j4)], []⟩) ?_ (fun j4 h => ?_)
    · conv => cbv
      refine den_loop' slices_Repeat_sint_int_L1 h (fun a5 => ⟨[(7, .osl 30), (8, .int .i64 (.v a5.1))], [(30, .arr false 3 1 e_i64 a5.2)], []⟩) (fun _ _ a5 x1 h hb1 hx1 => ?_)
      unfold slices_Repeat_sint_int_L1 at h
      conv => cbv
      refine den_br h (fun _ h => ?_) (fun _ h => ?_)
      · conv => cbv
        refine .mk (some [30]) (by kernel_rfl) ?_
        conv => cbv
        refine den_view h fun l6 il6 ml6 hil6 hml6 _ h => ?_
        conv => cbv
        refine .mk ?_
        conv => cbv
        refine den_view h fun l7 il7 ml7 hil7 hml7 _ h => ?_
        conv => cbv
        subst hil6
        subst hml6
        subst hil7
        subst hml7
        refine den_copy e_i64 a5.1 ((a5.2.length : Int) - a5.1) (xs := ((a5.2.drop (0 : Int).toNat).take (a5.1 - 0 : Int).toNat)) h rfl (.inr ⟨_, _, rfl, rfl, rfl⟩) (News.map rfl) (fun h => ?_) (fun c8 _ h => ?_)
        · conv => cbv
          exact den_back' h hb1
        · conv => cbv
          exact den_back' h hb1
      conv => cbv
      replace h := den_out h hx1
      exact den_join' h
    unfold slices_Repeat_sint_int_K1 at h
    conv => cbv
    refine .mk [(30, 20000, false)] [] rfl rfl ?_ ?_
    · conv => cbv
      cases h
      exact lp
    conv => cbv
    cases h
    exact lp
  · conv => cbv
    refine den_cut' (r := r) slices_Repeat_sint_int_K1 (fun j9 => ⟨[(7, .osl 30)], [(30, .arr false 3 1 e_i64 j9)], []⟩) ?_ (fun j9 h => ?_)
    · conv => cbv
      refine den_loop' slices_Repeat_sint_int_L1 h (fun a10 => ⟨[(7, .osl 30), (8, .int .i64 (.v a10.1))], [(30, .arr false 3 1 e_i64 a10.2)], []⟩) (fun _ _ a10 x1 h hb1 hx1 => ?_)
      unfold slices_Repeat_sint_int_L1 at h
      conv => cbv
      refine den_br h (fun _ h => ?_) (fun _ h => ?_)
      · conv => cbv
        refine .mk (some [30]) (by kernel_rfl) ?_
        conv => cbv
        refine den_view h fun l11 il11 ml11 hil11 hml11 _ h => ?_
        conv => cbv
        refine .mk ?_
        conv => cbv
        refine den_view h fun l12 il12 ml12 hil12 hml12 _ h => ?_
        conv => cbv
        subst hil11
        subst hml11
        subst hil12
        subst hml12
        refine den_copy e_i64 a10.1 ((a10.2.length : Int) - a10.1) (xs := ((a10.2.drop (0 : Int).toNat).take (a10.1 - 0 : Int).toNat)) h rfl (.inr ⟨_, _, rfl, rfl, rfl⟩) (News.map rfl) (fun h => ?_) (fun c13 _ h => ?_)
        · conv => cbv
          exact den_back' h hb1
        · conv => cbv
          exact den_back' h hb1
      conv => cbv
      replace h := den_out h hx1
      exact den_join' h
    unfold slices_Repeat_sint_int_K1 at h
    conv => cbv
    refine .mk [(30, 20000, false)] [] rfl rfl ?_ ?_
    · conv => cbv
      cases h
      exact lp
    conv => cbv
    cases h
    exact lp
def Tx_subframe_reader_linear : Tab := [(3, ⟨.int .i64, 1, 8, [.int .i64 (.lit 0)]⟩), (27, ⟨.int .i64, 1, 8, [.int .i64 (.lit 0)]⟩), (30, ⟨.slice 3, 1, 24, [.nilsl]⟩), (32, ⟨.struct [(0, 3), (1, 3), (2, 30)], 3, 40, [.int .i64 (.lit 0), .int .i64 (.lit 0), .nilsl]⟩), (64, ⟨.struct [(0, 25), (1, 27)], 2, 16, [.nilptr, .int .i64 (.lit 0)]⟩)]
theorem Tx_subframe_reader_linear_ok : TabOk Tryz.prog Tx_subframe_reader_linear := tab_ok [3, 27, 30, 32, 64]
theorem x_subframe_reader_linear {y0 : Int} {y1 : Int} {y2 : bits_Reader} {r : Int × Int × (List Int) × Int × Int} (h : subframe_reader_linear y0 y1 y2 = some r) : ACalls Tryz.prog Gl 51 [.ptr 10000 0, e_i64 y0] [(10000, .var [.ptr 10001 0, .int .i64 (.v y1)]), (10001, .var [.int .i64 (.v y2.m_place.m_at), .sl 1 e_u8 y2.m_b])] (fun x o' => x = .agg [.int .i64 (.v r.1), .int .i64 (.v r.2.1), .sl 1 e_i64 r.2.2.1] ∧ o' = [(10000, .var [.ptr 10001 0, .int .i64 (.v r.2.2.2.1)]), (10001, .var [.int .i64 (.v r.2.2.2.2), .sl 1 e_u8 y2.m_b])]) := by
  refine acalls_of' Tx_subframe_reader_linear Gl 42 [10000, 10001] Tryz.func51 Tx_subframe_reader_linear_ok Tryz_mixed fun P hP _ => ?_
  unfold subframe_reader_linear at h
  conv => cbv
  refine den_own' [(10000, 10000, false), (10001, 10001, false)] [] hP h (fun _ h => x_subframe_reader_take h) fun r1 _ h => ?_
  conv => cbv
  obtain ⟨t2, ht2, h⟩ := den_let h
  refine den_own' [(10000, 10000, false), (10001, 10001, false)] [] hP h (fun _ h => x_subframe_reader_wrong h) fun r3 _ h => ?_
  conv => cbv
  refine den_own' [(10000, 10000, false), (10001, 10001, false)] [] hP h (fun _ h => x_subframe_reader_signed h) fun r4 _ h => ?_
  conv => cbv
  obtain ⟨t5, ht5, h⟩ := den_let h
  refine den_own' [(10000, 10000, false), (10001, 10001, false)] [] hP h (fun _ h => x_subframe_reader_wrong h) fun r6 _ h => ?_
  conv => cbv
  refine den_cut' (r := r) (subframe_reader_linear_K1 r1 r4) (fun j7 => ⟨[(4, .ptr 4 0), (5, .ptr 5 0)], [(4, .var [.int .i64 (.lit 0), .int .i64 (.lit 0), .nilsl]), (5, .var [.int .i64 (.ar .add .i64 (.v r1.1) (.lit 1)), .int .i64 (.v r4.1), .osl 2062]), (2062, .arr false 3 1 e_i64 j7.2.2), (10000, .var [.ptr 10001 0, .int .i64 (.v j7.1)]), (10001, .var [.int .i64 (.v j7.2.1), .sl 1 e_u8 y2.m_b])], []⟩) ?_ (fun j7 h => ?_)
  · conv => cbv
    refine den_loop (subframe_reader_linear_L1 y0 y2 r1 r4) h (fun a8 : Int × Int × Int × (List Int) => ⟨[(0, .ptr 10000 0), (4, .ptr 4 0), (5, .ptr 5 0), (23, .int .i64 (.v y0)), (24, .int .i64 (.v a8.1))], [(4, .var [.int .i64 (.lit 0), .int .i64 (.lit 0), .nilsl]), (5, .var [.int .i64 (.ar .add .i64 (.v r1.1) (.lit 1)), .int .i64 (.v r4.1), .osl 2062]), (2062, .arr false 3 1 e_i64 a8.2.2.2), (10000, .var [.ptr 10001 0, .int .i64 (.v a8.2.1)]), (10001, .var [.int .i64 (.v a8.2.2.1), .sl 1 e_u8 y2.m_b])], []⟩) ?_ (fun _ _ a8 x1 h hb1 hx1 => ?_)
    · intro j0 hj
      conv => cbv
      subst hj
      exact ⟨⟨.same _, .var _ _ (.cons _ _ _ _ (.same _) (.cons _ _ _ _ (.same _) (.cons _ _ _ _ (.own _ _ _ _ _ _ rfl rfl) .nil))), .arr _ _ _ _ _ _ rfl, .var _ _ lp, .var _ _ lp, trivial⟩, .same _, .same _, .same _, .same _, .int _ _ _ rfl, trivial⟩
    unfold subframe_reader_linear_L1 at h
    conv => cbv
    refine den_br h (fun _ h => ?_) (fun _ h => ?_)
    · conv => cbv
      refine den_cut' (r := x1) (subframe_reader_linear_K2 a8) (fun j9 => ⟨[(0, .ptr 10000 0), (4, .ptr 4 0), (5, .ptr 5 0), (23, .int .i64 (.v y0)), (24, .int .i64 (.v a8.1))], [(4, .var [.int .i64 (.lit 0), .int .i64 (.lit 0), .nilsl]), (5, .var [.int .i64 (.ar .add .i64 (.v r1.1) (.lit 1)), .int .i64 (.v r4.1), .osl 2062]), (2062, .arr false 3 1 e_i64 j9.2.2), (10000, .var [.ptr 10001 0, .int .i64 (.v j9.1)]), (10001, .var [.int .i64 (.v j9.2.1), .sl 1 e_u8 y2.m_b])], []⟩) ?_ (fun j9 h => ?_)
      · conv => cbv
        refine den_br h (fun _ h => ?_) (fun _ h => ?_)
        · conv => cbv
          refine .mk (some [5, 2062, 10000, 10001]) (by kernel_rfl) ?_
          conv => cbv
          refine ⟨?_, ?_⟩
          · refine .mk ?_
            conv => cbv
            obtain ⟨t10, ht10, h⟩ := den_let h
            refine den_own' [(10000, 10000, false), (10001, 10001, false)] [] hP h (fun _ h => x_subframe_reader_signed h) fun r11 _ h => ?_
            conv => cbv
            refine .data ?_
            conv => cbv
            refine den_app_own e_i64 (xs := [r11.1]) h rfl lp fun l12 _ h => ?_
            conv => cbv
            exact den_join' h
          · refine ⟨?_, ?_⟩
            · refine .mk ?_
              conv => cbv
              obtain ⟨t13, ht13, h⟩ := den_let h
              refine den_own' [(10000, 10000, false), (10001, 10001, false)] [] hP h (fun _ h => x_subframe_reader_signed h) fun r14 _ h => ?_
              conv => cbv
              refine .data ?_
              conv => cbv
              refine den_app_own e_i64 (xs := [r14.1]) h rfl lp fun l15 _ h => ?_
              conv => cbv
              exact den_join' h
            · obtain ⟨t16, ht16, h⟩ := den_let h
              refine den_own' [(10000, 10000, false), (10001, 10001, false)] [] hP h (fun _ h => x_subframe_reader_signed h) fun r17 _ h => ?_
              conv => cbv
              refine .mk ?_
              conv => cbv
              refine ⟨?_, ?_⟩
              · refine .data ?_
                conv => cbv
                refine den_app_own e_i64 (xs := [r17.1]) h rfl lp fun l18 _ h => ?_
                conv => cbv
                exact den_join' h
              · refine .data ?_
                conv => cbv
                refine den_app_own e_i64 (xs := [r17.1]) h rfl lp fun l19 _ h => ?_
                conv => cbv
                exact den_join' h
        conv => cbv
        exact den_join' h
      unfold subframe_reader_linear_K2 at h
      conv => cbv
      exact den_back' h hb1
    conv => cbv
    replace h := den_out h hx1
    exact den_join' h
  unfold subframe_reader_linear_K1 at h
  conv => cbv
  refine .mk [(10000, 10000, false), (10001, 10001, false)] [] rfl rfl ?_ ?_
  · conv => cbv
    cases h
    exact ⟨.var _ _ lp, .var _ _ lp, trivial⟩
  conv => cbv
  cases h
  exact .cons _ _ _ _ (.agg _ _ lp) .nil
def Tx_subframe_reader_read : Tab := [(3, ⟨.int .i64, 1, 8, [.int .i64 (.lit 0)]⟩), (25, ⟨.ptr 60, 1, 8, [.nilptr]⟩), (27, ⟨.int .i64, 1, 8, [.int .i64 (.lit 0)]⟩), (30, ⟨.slice 3, 1, 24, [.nilsl]⟩), (32, ⟨.struct [(0, 3), (1, 3), (2, 30)], 3, 40, [.int .i64 (.lit 0), .int .i64 (.lit 0), .nilsl]⟩), (34, ⟨.struct [(0, 3), (1, 3), (2, 30), (3, 30)], 4, 64, [.int .i64 (.lit 0), .int .i64 (.lit 0), .nilsl, .nilsl]⟩), (36, ⟨.struct [(0, 3), (1, 3), (2, 3), (3, 32), (6, 34)], 10, 128, [.int .i64 (.lit 0), .int .i64 (.lit 0), .int .i64 (.lit 0), .int .i64 (.lit 0), .int .i64 (.lit 0), .nilsl, .int .i64 (.lit 0), .int .i64 (.lit 0), .nilsl, .nilsl]⟩), (64, ⟨.struct [(0, 25), (1, 27)], 2, 16, [.nilptr, .int .i64 (.lit 0)]⟩)]
theorem Tx_subframe_reader_read_ok : TabOk Tryz.prog Tx_subframe_reader_read := tab_ok [3, 25, 27, 30, 32, 34, 36, 64]
theorem x_subframe_reader_read {y0 : Int} {y1 : Int} {y2 : Int} {y3 : bits_Reader} {r : (List Int) × Int × Int × Int × Int × Int × (List Int) × Int × Int × (List Int) × (List Int) × Int × Int} (h : subframe_reader_read y0 y1 y2 y3 = some r) : ACalls Tryz.prog Gl 21 [.ptr 10000 0, e_i64 y0, e_i64 y1] [(10000, .var [.ptr 10001 0, .int .i64 (.v y2)]), (10001, .var [.int .i64 (.v y3.m_place.m_at), .sl 1 e_u8 y3.m_b])] (fun x o' => x = .tup [.sl 1 e_i64 r.1, .agg [.int .i64 (.v r.2.1), .int .i64 (.v r.2.2.1), .int .i64 (.v r.2.2.2.1), .int .i64 (.v r.2.2.2.2.1), .int .i64 (.v r.2.2.2.2.2.1), .sl 1 e_i64 r.2.2.2.2.2.2.1, .int .i64 (.v r.2.2.2.2.2.2.2.1), .int .i64 (.v r.2.2.2.2.2.2.2.2.1), .sl 1 e_i64 r.2.2.2.2.2.2.2.2.2.1, .sl 1 e_i64 r.2.2.2.2.2.2.2.2.2.2.1]] ∧ o' = [(10000, .var [.ptr 10001 0, .int .i64 (.v r.2.2.2.2.2.2.2.2.2.2.2.1)]), (10001, .var [.int .i64 (.v r.2.2.2.2.2.2.2.2.2.2.2.2), .sl 1 e_u8 y3.m_b])]) := by
  refine acalls_of' Tx_subframe_reader_read Gl 134 [10000, 10001] Tryz.func21 Tx_subframe_reader_read_ok Tryz_mixed fun P hP _ => ?_
  unfold subframe_reader_read at h
  conv => cbv
  refine den_own' [(10000, 10000, false), (10001, 10001, false)] [] hP h (fun _ h => x_subframe_reader_head h) fun r1 _ h => ?_
  conv => cbv
  refine den_br h (fun _ h => ?_) (fun _ h => ?_)
  · conv => cbv
    refine .dup ?_
    conv => cbv
    refine .mk (some [7]) (by kernel_rfl) ?_
    conv => cbv
    refine .mk [(10000, 10000, false), (10001, 10001, false)] [] rfl rfl ?_ ?_
    · conv => cbv
      cases h
      exact ⟨.var _ _ lp, .var _ _ lp, trivial⟩
    conv => cbv
    cases h
    exact .cons _ _ _ _ (.tup _ _ lp) .nil
  conv => cbv
  refine .mk ?_
  conv => cbv
  refine .data ?_
  conv => cbv
  refine den_elemV (f := e_i64) lp h fun p2 _ h => ?_
  conv => cbv
  refine den_cut' (r := r) (subframe_reader_read_K1 y0 y1 y3 r1) (fun j3 => ⟨[(0, .ptr 10000 0), (1, .int .i64 (.v y0)), (7, .ptr 7 0), (8, .ptr 8 0), (9, .int .i64 (.ar .sub .i64 (.v y1) (.v r1.2.2.1))), (11, .osl 1011)], [(7, .var [.int .i64 (.lit 0), .int .i64 (.lit 0), .int .i64 (.lit 0), .int .i64 (.lit 0), .int .i64 (.lit 0), .nilsl, .int .i64 (.lit 0), .int .i64 (.lit 0), .nilsl, .nilsl]), (8, .var [.int .i64 (.v r1.1), .int .i64 (.v r1.2.1), .int .i64 (.v r1.2.2.1), .int .i64 (.lit 0), .int .i64 (.lit 0), .nilsl, .int .i64 (.lit 0), .int .i64 (.lit 0), .nilsl, .nilsl]), (1011, .arr false 3 1 e_i64 j3.2.2), (10000, .var [.ptr 10001 0, .int .i64 (.v j3.1)]), (10001, .var [.int .i64 (.v j3.2.1), .sl 1 e_u8 y3.m_b])], []⟩) ?_ (fun j3 h => ?_)
  · conv => cbv
    refine den_loop (subframe_reader_read_L2 y0 y1 y3 r1 p2) h (fun a23 : Int × Int × Int × (List Int) => ⟨[(0, .ptr 10000 0), (1, .int .i64 (.v y0)), (7, .ptr 7 0), (8, .ptr 8 0), (9, .int .i64 (.ar .sub .i64 (.v y1) (.v r1.2.2.1))), (11, .osl 1011), (37, .int .i64 (.v p2)), (38, .int .i64 (.v a23.1))], [(7, .var [.int .i64 (.lit 0), .int .i64 (.lit 0), .int .i64 (.lit 0), .int .i64 (.lit 0), .int .i64 (.lit 0), .nilsl, .int .i64 (.lit 0), .int .i64 (.lit 0), .nilsl, .nilsl]), (8, .var [.int .i64 (.v r1.1), .int .i64 (.v r1.2.1), .int .i64 (.v r1.2.2.1), .int .i64 (.lit 0), .int .i64 (.lit 0), .nilsl, .int .i64 (.lit 0), .int .i64 (.lit 0), .nilsl, .nilsl]), (1011, .arr false 3 1 e_i64 a23.2.2.2), (10000, .var [.ptr 10001 0, .int .i64 (.v a23.2.1)]), (10001, .var [.int .i64 (.v a23.2.2.1), .sl 1 e_u8 y3.m_b])], []⟩) ?_ (fun _ _ a23 x1 h hb1 hx1 => ?_)
    · intro j0 hj
      conv => cbv
      subst hj
      exact ⟨⟨.same _, .same _, .arr _ _ _ _ _ _ rfl, .var _ _ lp, .var _ _ lp, trivial⟩, .same _, .same _, .same _, .same _, .same _, .own _ _ _ _ _ _ rfl rfl, .same _, .int _ _ _ rfl, trivial⟩
    unfold subframe_reader_read_L2 at h
    conv => cbv
    refine den_br h (fun _ h => ?_) (fun _ h => ?_)
    · conv => cbv
      refine .mk ?_
      conv => cbv
      obtain ⟨t24, ht24, h⟩ := den_let h
      refine den_own' [(10000, 10000, false), (10001, 10001, false)] [] hP h (fun _ h => x_subframe_reader_signed h) fun r25 _ h => ?_
      conv => cbv
      refine .data ?_
      conv => cbv
      refine den_app_own e_i64 (xs := [r25.1]) h rfl lp fun l26 _ h => ?_
      conv => cbv
      refine den_br h (fun _ h => ?_) (fun _ h => ?_)
      · conv => cbv
        replace h := den_out h hx1
        exact den_join' h
      conv => cbv
      exact den_back' h hb1
    conv => cbv
    replace h := den_out h hx1
    exact den_join' h
  unfold subframe_reader_read_K1 at h
  conv => cbv
  refine den_cut' (r := r) (subframe_reader_read_K2 r1) (fun j4 => ⟨[(7, .ptr 7 0), (8, .ptr 8 0), (11, .osl 1011)], [(7, .var [.int .i64 (.lit 0), .int .i64 (.lit 0), .int .i64 (.lit 0), .int .i64 (.lit 0), .int .i64 (.lit 0), .nilsl, .int .i64 (.lit 0), .int .i64 (.lit 0), .nilsl, .nilsl]), (8, .var [.int .i64 (.v r1.1), .int .i64 (.v r1.2.1), .int .i64 (.v r1.2.2.1), .int .i64 (.v j4.2.2.1), .int .i64 (.v j4.2.2.2.1), .sl 1 e_i64 j4.2.2.2.2.1, .int .i64 (.v j4.2.2.2.2.2.1), .int .i64 (.v j4.2.2.2.2.2.2.1), .sl 1 e_i64 j4.2.2.2.2.2.2.2.1, .sl 1 e_i64 j4.2.2.2.2.2.2.2.2.1]), (1011, .arr false 3 1 e_i64 j4.2.2.2.2.2.2.2.2.2), (10000, .var [.ptr 10001 0, .int .i64 (.v j4.1)]), (10001, .var [.int .i64 (.v j4.2.1), .sl 1 e_u8 y3.m_b])], []⟩) ?_ (fun j4 h => ?_)
  · conv => cbv
    refine den_cut' (r := r) (subframe_reader_read_K4 y0 y1 y3 r1 j3) (fun j9 => ⟨[(0, .ptr 10000 0), (1, .int .i64 (.v y0)), (7, .ptr 7 0), (8, .ptr 8 0), (9, .int .i64 (.ar .sub .i64 (.v y1) (.v r1.2.2.1))), (11, .osl 1011)], [(7, .var [.int .i64 (.lit 0), .int .i64 (.lit 0), .int .i64 (.lit 0), .int .i64 (.lit 0), .int .i64 (.lit 0), .nilsl, .int .i64 (.lit 0), .int .i64 (.lit 0), .nilsl, .nilsl]), (8, .var [.int .i64 (.v r1.1), .int .i64 (.v r1.2.1), .int .i64 (.v r1.2.2.1), .int .i64 (.v j9.2.2.1), .int .i64 (.v j9.2.2.2.1), .sl 1 e_i64 j9.2.2.2.2, .int .i64 (.lit 0), .int .i64 (.lit 0), .nilsl, .nilsl]), (1011, .arr false 3 1 e_i64 j3.2.2), (10000, .var [.ptr 10001 0, .int .i64 (.v j9.1)]), (10001, .var [.int .i64 (.v j9.2.1), .sl 1 e_u8 y3.m_b])], []⟩) ?_ (fun j9 h => ?_)
    · conv => cbv
      refine den_br h (fun _ h => ?_) (fun _ h => ?_)
      · conv => cbv
        refine den_own' (ho := True.intro) [(1011, 20000, true)] [1011] hP h (fun _ h => x_slices_Repeat_sint_int h) fun r21 _ h => ?_
        conv => cbv
        exact den_join' h
      conv => cbv
      refine den_br h (fun _ h => ?_) (fun _ h => ?_)
      · conv => cbv
        refine .mk ?_
        conv => cbv
        refine den_own' [(10000, 10000, false), (10001, 10001, false)] [] hP h (fun _ h => x_subframe_reader_linear h) fun r22 _ h => ?_
        conv => cbv
        exact den_join' h
      conv => cbv
      refine den_br h (fun _ h => ?_) (fun _ h => ?_)
      · conv => cbv
        exact den_join' h
      conv => cbv
      exact den_join' h
    unfold subframe_reader_read_K4 at h
    conv => cbv
    refine den_cut' (r := r) (subframe_reader_read_K5 r1 j9) (fun j10 => ⟨[(7, .ptr 7 0), (8, .ptr 8 0), (11, .osl 1011)], [(7, .var [.int .i64 (.lit 0), .int .i64 (.lit 0), .int .i64 (.lit 0), .int .i64 (.lit 0), .int .i64 (.lit 0), .nilsl, .int .i64 (.lit 0), .int .i64 (.lit 0), .nilsl, .nilsl]), (8, .var [.int .i64 (.v r1.1), .int .i64 (.v r1.2.1), .int .i64 (.v r1.2.2.1), .int .i64 (.v j9.2.2.1), .int .i64 (.v j9.2.2.2.1), .sl 1 e_i64 j9.2.2.2.2, .int .i64 (.v j10.2.2.1), .int .i64 (.v j10.2.2.2.1), .sl 1 e_i64 j10.2.2.2.2.1, .sl 1 e_i64 j10.2.2.2.2.2.1]), (1011, .arr false 3 1 e_i64 j10.2.2.2.2.2.2), (10000, .var [.ptr 10001 0, .int .i64 (.v j10.1)]), (10001, .var [.int .i64 (.v j10.2.1), .sl 1 e_u8 y3.m_b])], []⟩) ?_ (fun j10 h => ?_)
    · conv => cbv
      refine den_br h (fun _ h => ?_) (fun _ h => ?_)
      · conv => cbv
        exact den_join' h
      conv => cbv
      refine den_cut' (r := r) (subframe_reader_read_K6 y1 y3 r1 j3 j9) (fun j11 => ⟨[(0, .ptr 10000 0), (7, .ptr 7 0), (8, .ptr 8 0), (9, .int .i64 (.ar .sub .i64 (.v y1) (.v r1.2.2.1))), (11, .osl 1011), (12, .sl 1 e_i64 j11.1)], [(7, .var [.int .i64 (.lit 0), .int .i64 (.lit 0), .int .i64 (.lit 0), .int .i64 (.lit 0), .int .i64 (.lit 0), .nilsl, .int .i64 (.lit 0), .int .i64 (.lit 0), .nilsl, .nilsl]), (8, .var [.int .i64 (.v r1.1), .int .i64 (.v r1.2.1), .int .i64 (.v r1.2.2.1), .int .i64 (.v j9.2.2.1), .int .i64 (.v j9.2.2.2.1), .sl 1 e_i64 j9.2.2.2.2, .int .i64 (.v j11.2.2.2.2.1), .int .i64 (.v j11.2.2.2.2.2.1), .sl 1 e_i64 j11.2.2.2.2.2.2.1, .sl 1 e_i64 j11.2.2.2.2.2.2.2]), (1011, .arr false 3 1 e_i64 j3.2.2), (10000, .var [.ptr 10001 0, .int .i64 (.v j11.2.1)]), (10001, .var [.int .i64 (.v j11.2.2.1), .sl 1 e_u8 y3.m_b]), (10001, .var [.int .i64 (.v j11.2.2.2.1), .sl 1 e_u8 y3.m_b])], []⟩) ?_ (fun j11 h => ?_)
      · conv => cbv
        refine .mk (some [8, 10000, 10001]) (by kernel_rfl) ?_
        conv => cbv
        refine .mk ?_
        conv => cbv
        refine ⟨?_, ?_⟩
        · refine den_own' [(10001, 10000, false)] [] hP h (fun _ h => x_rice_Read h) fun r19 _ h => ?_
          conv => cbv
          refine .mk ?_
          conv => cbv
          refine .mk ?_
          conv => cbv
          exact den_join' h
        · refine den_own' [(10001, 10000, false)] [] hP h (fun _ h => x_rice_Read h) fun r20 _ h => ?_
          conv => cbv
          refine .mk ?_
          conv => cbv
          refine .mk ?_
          conv => cbv
          exact den_join' h
      unfold subframe_reader_read_K6 at h
      conv => cbv
      refine den_cut' (r := r) (subframe_reader_read_K7 y1 y3 r1 j9 j11) (fun j12 => ⟨[(0, .ptr 10000 0), (7, .ptr 7 0), (8, .ptr 8 0), (9, .int .i64 (.ar .sub .i64 (.v y1) (.v r1.2.2.1))), (11, .osl 1011)], [(7, .var [.int .i64 (.lit 0), .int .i64 (.lit 0), .int .i64 (.lit 0), .int .i64 (.lit 0), .int .i64 (.lit 0), .nilsl, .int .i64 (.lit 0), .int .i64 (.lit 0), .nilsl, .nilsl]), (8, .var [.int .i64 (.v r1.1), .int .i64 (.v r1.2.1), .int .i64 (.v r1.2.2.1), .int .i64 (.v j9.2.2.1), .int .i64 (.v j9.2.2.2.1), .sl 1 e_i64 j9.2.2.2.2, .int .i64 (.v j11.2.2.2.2.1), .int .i64 (.v j11.2.2.2.2.2.1), .sl 1 e_i64 j11.2.2.2.2.2.2.1, .sl 1 e_i64 j11.2.2.2.2.2.2.2]), (1011, .arr false 3 1 e_i64 j12.2), (10000, .var [.ptr 10001 0, .int .i64 (.v j12.1)]), (10001, .var [.int .i64 (.v j11.2.2.1), .sl 1 e_u8 y3.m_b]), (10001, .var [.int .i64 (.v j11.2.2.1), .sl 1 e_u8 y3.m_b])], []⟩) ?_ (fun j12 h => ?_)
      · conv => cbv
        refine den_br h (fun _ h => ?_) (fun _ h => ?_)
        · conv => cbv
          refine .mk ?_
          conv => cbv
          refine den_call' hP h (fun _ h => v_subframe_how h) fun r17 _ h => ?_
          conv => cbv
          refine den_own' (ho := True.intro) [(1011, 20000, true)] [1011] hP h (fun _ h => x_predict_Restore h) fun r18 _ h => ?_
          conv => cbv
          refine .mk ?_
          conv => cbv
          exact den_join' h
        conv => cbv
        exact den_join' h
      unfold subframe_reader_read_K7 at h
      conv => cbv
      refine .mk ?_
      conv => cbv
      refine .mk ?_
      conv => cbv
      refine den_br h (fun _ h => ?_) (fun _ h => ?_)
      · conv => cbv
        refine den_lend' hP h (fun _ h => v_subframe_fits h) fun r13 _ h => ?_
        conv => cbv
        obtain ⟨t14, ht14, h⟩ := den_let h
        refine den_own' [(10000, 10000, false), (10001, 10001, false)] [] hP h (fun _ h => x_subframe_reader_wrong h) fun r15 _ h => ?_
        conv => cbv
        exact den_join' h
      conv => cbv
      refine den_own' [(10000, 10000, false), (10001, 10001, false)] [] hP h (fun _ h => x_subframe_reader_wrong h) fun r16 _ h => ?_
      conv => cbv
      exact den_join' h
    unfold subframe_reader_read_K5 at h
    conv => cbv
    exact den_join' h
  unfold subframe_reader_read_K2 at h
  conv => cbv
  refine den_cut' (r := r) (subframe_reader_read_K3 r1 j4) (fun j5 => ⟨[(7, .ptr 7 0), (8, .ptr 8 0), (11, .osl 1011)], [(7, .var [.int .i64 (.lit 0), .int .i64 (.lit 0), .int .i64 (.lit 0), .int .i64 (.lit 0), .int .i64 (.lit 0), .nilsl, .int .i64 (.lit 0), .int .i64 (.lit 0), .nilsl, .nilsl]), (8, .var [.int .i64 (.v r1.1), .int .i64 (.v r1.2.1), .int .i64 (.v r1.2.2.1), .int .i64 (.v j4.2.2.1), .int .i64 (.v j4.2.2.2.1), .sl 1 e_i64 j4.2.2.2.2.1, .int .i64 (.v j4.2.2.2.2.2.1), .int .i64 (.v j4.2.2.2.2.2.2.1), .sl 1 e_i64 j4.2.2.2.2.2.2.2.1, .sl 1 e_i64 j4.2.2.2.2.2.2.2.2.1]), (1011, .arr false 3 1 e_i64 j5), (10000, .var [.ptr 10001 0, .int .i64 (.v j4.1)]), (10001, .var [.int .i64 (.v j4.2.1), .sl 1 e_u8 y3.m_b])], []⟩) ?_ (fun j5 h => ?_)
  · conv => cbv
    refine den_loop' (subframe_reader_read_L1 r1 j4) h (fun a6 => ⟨[(7, .ptr 7 0), (8, .ptr 8 0), (11, .osl 1011), (119, .int .i64 (.len j4.2.2.2.2.2.2.2.2.2)), (120, .int .i64 (.v a6.1))], [(7, .var [.int .i64 (.lit 0), .int .i64 (.lit 0), .int .i64 (.lit 0), .int .i64 (.lit 0), .int .i64 (.lit 0), .nilsl, .int .i64 (.lit 0), .int .i64 (.lit 0), .nilsl, .nilsl]), (8, .var [.int .i64 (.v r1.1), .int .i64 (.v r1.2.1), .int .i64 (.v r1.2.2.1), .int .i64 (.v j4.2.2.1), .int .i64 (.v j4.2.2.2.1), .sl 1 e_i64 j4.2.2.2.2.1, .int .i64 (.v j4.2.2.2.2.2.1), .int .i64 (.v j4.2.2.2.2.2.2.1), .sl 1 e_i64 j4.2.2.2.2.2.2.2.1, .sl 1 e_i64 j4.2.2.2.2.2.2.2.2.1]), (1011, .arr false 3 1 e_i64 a6.2), (10000, .var [.ptr 10001 0, .int .i64 (.v j4.1)]), (10001, .var [.int .i64 (.v j4.2.1), .sl 1 e_u8 y3.m_b])], []⟩) (fun _ _ a6 x1 h hb1 hx1 => ?_)
    unfold subframe_reader_read_L1 at h
    conv => cbv
    refine den_br h (fun _ h => ?_) (fun _ h => ?_)
    · conv => cbv
      refine .mk (some [1011]) (by kernel_rfl) ?_
      conv => cbv
      refine den_chk h fun h => ?_
      conv => cbv
      refine den_chk h fun h => ?_
      conv => cbv
      refine .mk ?_
      conv => cbv
      refine den_eload h fun p7 _ h => ?_
      conv => cbv
      refine den_chk h fun h => ?_
      conv => cbv
      refine den_chk h fun h => ?_
      conv => cbv
      refine den_chk h fun h => ?_
      conv => cbv
      refine den_estore (f := e_i64) (shD .shl .i64 p7 r1.2.2.1) h (fun _ => CEqL.of_lepl lp rfl) fun l8 _ h => ?_
      conv => cbv
      exact den_back' h hb1
    conv => cbv
    replace h := den_out h hx1
    exact den_join' h
  unfold subframe_reader_read_K3 at h
  conv => cbv
  refine .dup ?_
  conv => cbv
  refine .mk (some [7]) (by kernel_rfl) ?_
  conv => cbv
  refine .mk [(10000, 10000, false), (10001, 10001, false)] [1011] rfl rfl ?_ ?_
  · conv => cbv
    cases h
    exact ⟨.var _ _ lp, .var _ _ lp, trivial⟩
  conv => cbv
  cases h
  exact .cons _ _ _ _ (.tup _ _ lp) .nil
def Tx_subframe_Read : Tab := [(25, ⟨.ptr 60, 1, 8, [.nilptr]⟩), (27, ⟨.int .i64, 1, 8, [.int .i64 (.lit 0)]⟩), (36, ⟨.struct [(0, 3), (1, 3), (2, 3), (3, 32), (6, 34)], 10, 128, [.int .i64 (.lit 0), .int .i64 (.lit 0), .int .i64 (.lit 0), .int .i64 (.lit 0), .int .i64 (.lit 0), .nilsl, .int .i64 (.lit 0), .int .i64 (.lit 0), .nilsl, .nilsl]⟩), (64, ⟨.struct [(0, 25), (1, 27)], 2, 16, [.nilptr, .int .i64 (.lit 0)]⟩)]
theorem Tx_subframe_Read_ok : TabOk Tryz.prog Tx_subframe_Read := tab_ok [25, 27, 36, 64]
theorem x_subframe_Read {y0 : Int} {y1 : Int} {y2 : bits_Reader} {r : (List Int) × Int × Int × Int × Int × Int × (List Int) × Int × Int × (List Int) × (List Int) × Int × Int} (h : subframe_Read y0 y1 y2 = some r) : ACalls Tryz.prog Gl 8 [.ptr 10000 0, e_i64 y0, e_i64 y1] [(10000, .var [.int .i64 (.v y2.m_place.m_at), .sl 1 e_u8 y2.m_b])] (fun x o' => x = .tup [.sl 1 e_i64 r.1, .agg [.int .i64 (.v r.2.1), .int .i64 (.v r.2.2.1), .int .i64 (.v r.2.2.2.1), .int .i64 (.v r.2.2.2.2.1), .int .i64 (.v r.2.2.2.2.2.1), .sl 1 e_i64 r.2.2.2.2.2.2.1, .int .i64 (.v r.2.2.2.2.2.2.2.1), .int .i64 (.v r.2.2.2.2.2.2.2.2.1), .sl 1 e_i64 r.2.2.2.2.2.2.2.2.2.1, .sl 1 e_i64 r.2.2.2.2.2.2.2.2.2.2.1], .int .i64 (.v r.2.2.2.2.2.2.2.2.2.2.2.1)] ∧ o' = [(10000, .var [.int .i64 (.v r.2.2.2.2.2.2.2.2.2.2.2.2), .sl 1 e_u8 y2.m_b])]) := by
  refine acalls_of' Tx_subframe_Read Gl 51 [10000] Tryz.func8 Tx_subframe_Read_ok Tryz_mixed fun P hP _ => ?_
  unfold subframe_Read at h
  conv => cbv
  refine den_call' hP h (fun _ h => v_subframe_sizes h) fun r1 _ h => ?_
  conv => cbv
  refine den_br h (fun _ h => ?_) (fun _ h => ?_)
  · conv => cbv
    refine .mk [(10000, 10000, false)] [] rfl rfl ?_ ?_
    · conv => cbv
      cases h
      exact ⟨.var _ _ lp, trivial⟩
    conv => cbv
    cases h
    exact .cons _ _ _ _ (.tup _ _ lp) .nil
  conv => cbv
  refine den_own' [(10000, 10000, false)] [] hP h (fun _ h => x_bits_Reader_At h) fun r2 _ h => ?_
  conv => cbv
  refine den_own' [(28, 10000, false), (10000, 10001, false)] [] hP h (fun _ h => x_subframe_reader_read h) fun r3 _ h => ?_
  conv => cbv
  refine .mk ?_
  conv => cbv
  refine den_br h (fun _ h => ?_) (fun _ h => ?_)
  · conv => cbv
    refine den_own' [(10000, 10000, false)] [] hP h (fun _ h => x_bits_Reader_Seek h) fun r4 _ h => ?_
    conv => cbv
    refine .dup ?_
    conv => cbv
    refine .mk (some [7]) (by kernel_rfl) ?_
    conv => cbv
    refine .mk ?_
    conv => cbv
    refine .mk [(10000, 10000, false)] [] rfl rfl ?_ ?_
    · conv => cbv
      cases h
      exact ⟨.var _ _ lp, trivial⟩
    conv => cbv
    cases h
    exact .cons _ _ _ _ (.tup _ _ lp) .nil
  conv => cbv
  refine .dup ?_
  conv => cbv
  refine .mk (some [7]) (by kernel_rfl) ?_
  conv => cbv
  refine .mk [(10000, 10000, false)] [] rfl rfl ?_ ?_
  · conv => cbv
    cases h
    exact ⟨.var _ _ lp, trivial⟩
  conv => cbv
  cases h
  exact .cons _ _ _ _ (.tup _ _ lp) .nil
end Go.Proofs.YtpjbfealfmjddaaGreatDoor
