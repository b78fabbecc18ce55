/- That the code answers so, printed by a program. -/
import Derived.Test.YtpjbfealfmjddaaDoorF1
import Derived.Test.YtpjbfealfmjddaaDoorIt
import Derived.Test.YtpjbfealfmjddaaDoorProg
import Derived.Test.YtpjbfealfmjddaaDoorVm
import Derived.Test.YtpjbfealfmjddaaDoorV1
import Derived.Test.YtpjbfealfmjddaaDoorV2
set_option maxRecDepth 4000
set_option linter.all false
set_option linter.unusedVariables false
set_option linter.unusedSimpArgs false
namespace Go.Proofs.YtpjbfealfmjddaaDoor
open Go Go.Vg
def T_subframe_sizes : Tab := []
theorem T_subframe_sizes_ok : TabOk Tryd.prog T_subframe_sizes := tab_ok []
theorem v_subframe_sizes {y0 : Int} {y1 : Int} {r : Int} (h : subframe_sizes y0 y1 = some r) : AVal Tryd.prog Gl 30 [e_i64 y0, e_i64 y1] (e_i64 r) := by
  refine aval_of' T_subframe_sizes Gl 19 Tryd.func30 T_subframe_sizes_ok Tryd_mixed fun P hP _ => ?_
  unfold subframe_sizes at h
  conv => cbv
  refine .mk ?_
  conv => cbv
  refine .mk ?_
  conv => cbv
  refine den_br h (fun _ h => ?_) (fun _ h => ?_)
  · conv => cbv
    cases h
    exact lp
  conv => cbv
  cases h
  exact lp
def Tx_subframe_fits_c1 : Tab := [(3, ⟨.int .i64, 1, 8, [.int .i64 (.lit 0)]⟩)]
theorem Tx_subframe_fits_c1_ok : TabOk Tryd.prog Tx_subframe_fits_c1 := tab_ok [3]
theorem x_subframe_fits_c1 {y0 : Int} {y1 : Int} {r : Unit} (h : subframe_fits_c1 y0 y1 = some r) : ACalls Tryd.prog Gl 58 [e_i64 y0, .ptr 10000 0] [(10000, .var [.int .i64 (.v y1)])] (fun x o' => x = .bool (.ite (.cmp .lss (.v y0) (.ar .sub .i64 (.lit 0) (.v y1))) (.lit true) (.cmp .geq (.v y0) (.v y1))) ∧ o' = [(10000, .var [.int .i64 (.v y1)])]) := by
  refine acalls_of' Tx_subframe_fits_c1 Gl 13 [10000] Tryd.func58 Tx_subframe_fits_c1_ok Tryd_mixed fun P hP _ => ?_
  unfold subframe_fits_c1 at h
  conv => cbv
  refine .mk ?_
  conv => cbv
  refine .mk [(10000, 10000, false)] [] rfl rfl ?_ ?_
  · conv => cbv
    cases h
    exact lp
  conv => cbv
  cases h
  exact lp
def Tx_slices_IndexFunc_sint_int : Tab := [(3, ⟨.int .i64, 1, 8, [.int .i64 (.lit 0)]⟩), (22, ⟨.slice 3, 1, 24, [.nilsl]⟩)]
theorem Tx_slices_IndexFunc_sint_int_ok : TabOk Tryd.prog Tx_slices_IndexFunc_sint_int := tab_ok [3, 22]
theorem x_slices_IndexFunc_sint_int {y0 : List Int} {y1 : Int} {r : Int} (h : slices_IndexFunc_sint_int y0 y1 = some r) : ACalls Tryd.prog Gl 81 [(e_sl 1 e_i64) y0, .fn 58 [] [.ptr 10000 0]] [(10000, .var [.int .i64 (.v y1)])] (fun x o' => x = .int .i64 (.v r) ∧ o' = [(10000, .var [.int .i64 (.v y1)])]) := by
  refine acalls_of' Tx_slices_IndexFunc_sint_int Gl 19 [10000] Tryd.func81 Tx_slices_IndexFunc_sint_int_ok Tryd_mixed fun P hP _ => ?_
  unfold slices_IndexFunc_sint_int at h
  conv => cbv
  refine den_cut' (r := r) slices_IndexFunc_sint_int_K1 (fun j1 => ⟨[], [(10000, .var [.int .i64 (.v y1)])], []⟩) ?_ (fun j1 h => ?_)
  · conv => cbv
    refine den_loop' (slices_IndexFunc_sint_int_L1 y0 y1) h (fun a2 => ⟨[(0, .sl 1 e_i64 y0), (1, .fn 58 [] [.ptr 10000 0]), (7, .int .i64 (.len y0)), (8, .int .i64 (.v a2))], [(10000, .var [.int .i64 (.v y1)])], []⟩) (fun _ _ a2 x1 h hb1 hx1 => ?_)
    unfold slices_IndexFunc_sint_int_L1 at h
    conv => cbv
    refine den_br h (fun _ h => ?_) (fun _ h => ?_)
    · conv => cbv
      refine .mk ?_
      conv => cbv
      refine den_elem h fun p3 _ h => ?_
      conv => cbv
      refine den_own' [(10000, 10000, false)] [] hP h (fun _ h => x_subframe_fits_c1 h) fun r4 _ h => ?_
      conv => cbv
      refine den_br h (fun _ h => ?_) (fun _ h => ?_)
      · conv => cbv
        replace h := den_out h hx1
        refine .mk [(10000, 10000, false)] [] rfl rfl ?_ ?_
        · conv => cbv
          cases h
          exact lp
        conv => cbv
        cases h
        exact lp
      conv => cbv
      exact den_back' h hb1
    conv => cbv
    replace h := den_out h hx1
    exact den_join' h
  unfold slices_IndexFunc_sint_int_K1 at h
  conv => cbv
  refine .mk [(10000, 10000, false)] [] rfl rfl ?_ ?_
  · conv => cbv
    cases h
    exact lp
  conv => cbv
  cases h
  exact lp
def Tx_slices_ContainsFunc_sint_int : Tab := []
theorem Tx_slices_ContainsFunc_sint_int_ok : TabOk Tryd.prog Tx_slices_ContainsFunc_sint_int := tab_ok []
theorem x_slices_ContainsFunc_sint_int {y0 : List Int} {y1 : Int} {r : Bool} (h : slices_ContainsFunc_sint_int y0 y1 = some r) : ACalls Tryd.prog Gl 57 [(e_sl 1 e_i64) y0, .fn 58 [] [.ptr 10000 0]] [(10000, .var [.int .i64 (.v y1)])] (fun x o' => x = .bool (.v r) ∧ o' = [(10000, .var [.int .i64 (.v y1)])]) := by
  refine acalls_of' Tx_slices_ContainsFunc_sint_int Gl 9 [10000] Tryd.func57 Tx_slices_ContainsFunc_sint_int_ok Tryd_mixed fun P hP _ => ?_
  unfold slices_ContainsFunc_sint_int at h
  conv => cbv
  refine den_own' [(10000, 10000, false)] [] hP h (fun _ h => x_slices_IndexFunc_sint_int h) fun r1 _ h => ?_
  conv => cbv
  refine .mk [(10000, 10000, false)] [] rfl rfl ?_ ?_
  · conv => cbv
    cases h
    exact lp
  conv => cbv
  cases h
  exact lp
def T_subframe_fits : Tab := [(3, ⟨.int .i64, 1, 8, [.int .i64 (.lit 0)]⟩)]
theorem T_subframe_fits_ok : TabOk Tryd.prog T_subframe_fits := tab_ok [3]
theorem v_subframe_fits {y0 : Int} {y1 : List Int} {r : Bool} (h : subframe_fits y0 y1 = some r) : AVal Tryd.prog Gl 31 [e_i64 y0, (e_sl 1 e_i64) y1] (e_bool r) := by
  refine aval_of' T_subframe_fits Gl 13 Tryd.func31 T_subframe_fits_ok Tryd_mixed fun P hP _ => ?_
  unfold subframe_fits at h
  conv => cbv
  refine den_chk h fun h => ?_
  conv => cbv
  obtain ⟨t1, ht1, h⟩ := den_let h
  refine den_own' [(5, 10000, false)] [] hP h (fun _ h => x_slices_ContainsFunc_sint_int h) fun r2 _ h => ?_
  conv => cbv
  cases h
  exact lp
def T_subframe_wasted : Tab := [(3, ⟨.int .i64, 1, 8, [.int .i64 (.lit 0)]⟩), (22, ⟨.slice 3, 1, 24, [.nilsl]⟩)]
theorem T_subframe_wasted_ok : TabOk Tryd.prog T_subframe_wasted := tab_ok [3, 22]
theorem v_subframe_wasted {y0 : List Int} {r : Int} (h : subframe_wasted y0 = some r) : AVal Tryd.prog Gl 32 [(e_sl 1 e_i64) y0] (e_i64 r) := by
  refine aval_of' T_subframe_wasted Gl 29 Tryd.func32 T_subframe_wasted_ok Tryd_mixed fun P hP _ => ?_
  unfold subframe_wasted at h
  conv => cbv
  refine den_cut' (r := r) subframe_wasted_K1 (fun j1 => ⟨[(3, .int .i64 (.v j1))], [], []⟩) ?_ (fun j1 h => ?_)
  · conv => cbv
    refine den_loop' (subframe_wasted_L2 y0) h (fun a4 => ⟨[(3, .int .i64 (.v a4.1)), (7, .sl 1 e_i64 y0), (8, .int .i64 (.len y0)), (9, .int .i64 (.v a4.2))], [], []⟩) (fun _ _ a4 x1 h hb1 hx1 => ?_)
    unfold subframe_wasted_L2 at h
    conv => cbv
    refine den_br h (fun _ h => ?_) (fun _ h => ?_)
    · conv => cbv
      refine den_elem h fun p5 _ h => ?_
      conv => cbv
      exact den_back' h hb1
    conv => cbv
    replace h := den_out h hx1
    exact den_join' h
  unfold subframe_wasted_K1 at h
  conv => cbv
  refine den_cut' (r := r) subframe_wasted_K2 (fun j2 => ⟨[(6, .int .i64 (.v j2))], [], []⟩) ?_ (fun j2 h => ?_)
  · conv => cbv
    refine den_loop' subframe_wasted_L1 h (fun a3 => ⟨[(3, .int .i64 (.v a3.1)), (6, .int .i64 (.v a3.2))], [], []⟩) (fun _ _ a3 x1 h hb1 hx1 => ?_)
    unfold subframe_wasted_L1 at h
    conv => cbv
    refine .mk ?_
    conv => cbv
    refine den_br h (fun _ h => ?_) (fun _ h => ?_)
    · conv => cbv
      exact den_back' h hb1
    conv => cbv
    replace h := den_out h hx1
    exact den_join' h
  unfold subframe_wasted_K2 at h
  conv => cbv
  cases h
  exact lp
def T_subframe_less : Tab := [(3, ⟨.int .i64, 1, 8, [.int .i64 (.lit 0)]⟩), (22, ⟨.slice 3, 1, 24, [.nilsl]⟩)]
theorem T_subframe_less_ok : TabOk Tryd.prog T_subframe_less := tab_ok [3, 22]
theorem v_subframe_less {y0 : Int} {y1 : List Int} {r : (List Int) × Bool} (h : subframe_less y0 y1 = some r) : AVal Tryd.prog Gl 33 [e_i64 y0, (e_sl 1 e_i64) y1] (.tup [(e_sl 1 e_i64) r.1, e_bool r.2]) := by
  refine aval_of' T_subframe_less Gl 29 Tryd.func33 T_subframe_less_ok Tryd_mixed fun P hP _ => ?_
  unfold subframe_less at h
  conv => cbv
  refine den_cut' (r := r) subframe_less_K1 (fun j1 => ⟨[(6, .osl 1006)], [(1006, .arr false 3 1 e_i64 j1)], []⟩) ?_ (fun j1 h => ?_)
  · conv => cbv
    refine den_loop (subframe_less_L1 y0 y1) h (fun a2 : Int × (List Int) => ⟨[(0, .int .i64 (.v y0)), (6, .osl 1006), (9, .sl 1 e_i64 y1), (10, .int .i64 (.len y1)), (11, .int .i64 (.v a2.1))], [(1006, .arr false 3 1 e_i64 a2.2)], []⟩) ?_ (fun _ _ a2 x1 h hb1 hx1 => ?_)
    · intro j0 hj
      conv => cbv
      subst hj
      exact ⟨⟨.arr _ _ _ _ _ _ rfl, trivial⟩, .same _, .own _ _ _ _ _ _ rfl rfl, .same _, .same _, .int _ _ _ rfl, trivial⟩
    unfold subframe_less_L1 at h
    conv => cbv
    refine den_br h (fun _ h => ?_) (fun _ h => ?_)
    · conv => cbv
      refine den_elem h fun p3 _ h => ?_
      conv => cbv
      refine .mk ?_
      conv => cbv
      refine den_chk h fun h => ?_
      conv => cbv
      refine den_br h (fun _ h => ?_) (fun _ h => ?_)
      · conv => cbv
        replace h := den_out h hx1
        cases h
        exact .tup _ _ lp
      conv => cbv
      refine .mk ?_
      conv => cbv
      refine den_chk h fun h => ?_
      conv => cbv
      refine .data ?_
      conv => cbv
      refine den_app_own e_i64 (xs := [(shD .shr .i64 p3 y0)]) h rfl lp fun l4 _ h => ?_
      conv => cbv
      exact den_back' h hb1
    conv => cbv
    replace h := den_out h hx1
    exact den_join' h
  unfold subframe_less_K1 at h
  conv => cbv
  cases h
  exact .tup _ _ lp
def Tx_subframe_same_c1 : Tab := [(3, ⟨.int .i64, 1, 8, [.int .i64 (.lit 0)]⟩), (22, ⟨.slice 3, 1, 24, [.nilsl]⟩)]
theorem Tx_subframe_same_c1_ok : TabOk Tryd.prog Tx_subframe_same_c1 := tab_ok [3, 22]
theorem x_subframe_same_c1 {y0 : Int} {y1 : List Int} {r : Bool} (h : subframe_same_c1 y0 y1 = some r) : ACalls Tryd.prog Gl 59 [e_i64 y0, .ptr 10000 0] [(10000, .var [.sl 1 e_i64 y1])] (fun x o' => x = .bool (.v r) ∧ o' = [(10000, .var [.sl 1 e_i64 y1])]) := by
  refine acalls_of' Tx_subframe_same_c1 Gl 9 [10000] Tryd.func59 Tx_subframe_same_c1_ok Tryd_mixed fun P hP _ => ?_
  unfold subframe_same_c1 at h
  conv => cbv
  refine .mk ?_
  conv => cbv
  refine den_elem h fun p1 _ h => ?_
  conv => cbv
  refine .mk [(10000, 10000, false)] [] rfl rfl ?_ ?_
  · conv => cbv
    cases h
    exact lp
  conv => cbv
  cases h
  exact lp
def Tx_slices_IndexFunc_sint_int_x2 : Tab := [(3, ⟨.int .i64, 1, 8, [.int .i64 (.lit 0)]⟩), (22, ⟨.slice 3, 1, 24, [.nilsl]⟩)]
theorem Tx_slices_IndexFunc_sint_int_x2_ok : TabOk Tryd.prog Tx_slices_IndexFunc_sint_int_x2 := tab_ok [3, 22]
theorem x_slices_IndexFunc_sint_int_x2 {y0 : List Int} {y1 : List Int} {r : Int} (h : slices_IndexFunc_sint_int_x2 y0 y1 = some r) : ACalls Tryd.prog Gl 81 [(e_sl 1 e_i64) y0, .fn 59 [] [.ptr 10000 0]] [(10000, .var [.sl 1 e_i64 y1])] (fun x o' => x = .int .i64 (.v r) ∧ o' = [(10000, .var [.sl 1 e_i64 y1])]) := by
  refine acalls_of' Tx_slices_IndexFunc_sint_int_x2 Gl 19 [10000] Tryd.func81 Tx_slices_IndexFunc_sint_int_x2_ok Tryd_mixed fun P hP _ => ?_
  unfold slices_IndexFunc_sint_int_x2 at h
  conv => cbv
  refine den_cut' (r := r) slices_IndexFunc_sint_int_x2_K1 (fun j1 => ⟨[], [(10000, .var [.sl 1 e_i64 y1])], []⟩) ?_ (fun j1 h => ?_)
  · conv => cbv
    refine den_loop' (slices_IndexFunc_sint_int_x2_L1 y0 y1) h (fun a2 => ⟨[(0, .sl 1 e_i64 y0), (1, .fn 59 [] [.ptr 10000 0]), (7, .int .i64 (.len y0)), (8, .int .i64 (.v a2))], [(10000, .var [.sl 1 e_i64 y1])], []⟩) (fun _ _ a2 x1 h hb1 hx1 => ?_)
    unfold slices_IndexFunc_sint_int_x2_L1 at h
    conv => cbv
    refine den_br h (fun _ h => ?_) (fun _ h => ?_)
    · conv => cbv
      refine .mk ?_
      conv => cbv
      refine den_elem h fun p3 _ h => ?_
      conv => cbv
      refine den_own' [(10000, 10000, false)] [] hP h (fun _ h => x_subframe_same_c1 h) fun r4 _ h => ?_
      conv => cbv
      refine den_br h (fun _ h => ?_) (fun _ h => ?_)
      · conv => cbv
        replace h := den_out h hx1
        refine .mk [(10000, 10000, false)] [] rfl rfl ?_ ?_
        · conv => cbv
          cases h
          exact lp
        conv => cbv
        cases h
        exact lp
      conv => cbv
      exact den_back' h hb1
    conv => cbv
    replace h := den_out h hx1
    exact den_join' h
  unfold slices_IndexFunc_sint_int_x2_K1 at h
  conv => cbv
  refine .mk [(10000, 10000, false)] [] rfl rfl ?_ ?_
  · conv => cbv
    cases h
    exact lp
  conv => cbv
  cases h
  exact lp
def Tx_slices_ContainsFunc_sint_int_x2 : Tab := []
theorem Tx_slices_ContainsFunc_sint_int_x2_ok : TabOk Tryd.prog Tx_slices_ContainsFunc_sint_int_x2 := tab_ok []
theorem x_slices_ContainsFunc_sint_int_x2 {y0 : List Int} {y1 : List Int} {r : Bool} (h : slices_ContainsFunc_sint_int_x2 y0 y1 = some r) : ACalls Tryd.prog Gl 57 [(e_sl 1 e_i64) y0, .fn 59 [] [.ptr 10000 0]] [(10000, .var [.sl 1 e_i64 y1])] (fun x o' => x = .bool (.v r) ∧ o' = [(10000, .var [.sl 1 e_i64 y1])]) := by
  refine acalls_of' Tx_slices_ContainsFunc_sint_int_x2 Gl 9 [10000] Tryd.func57 Tx_slices_ContainsFunc_sint_int_x2_ok Tryd_mixed fun P hP _ => ?_
  unfold slices_ContainsFunc_sint_int_x2 at h
  conv => cbv
  refine den_own' [(10000, 10000, false)] [] hP h (fun _ h => x_slices_IndexFunc_sint_int_x2 h) fun r1 _ h => ?_
  conv => cbv
  refine .mk [(10000, 10000, false)] [] rfl rfl ?_ ?_
  · conv => cbv
    cases h
    exact lp
  conv => cbv
  cases h
  exact lp
def T_subframe_same : Tab := [(22, ⟨.slice 3, 1, 24, [.nilsl]⟩)]
theorem T_subframe_same_ok : TabOk Tryd.prog T_subframe_same := tab_ok [22]
theorem v_subframe_same {y0 : List Int} {r : Bool} (h : subframe_same y0 = some r) : AVal Tryd.prog Gl 34 [(e_sl 1 e_i64) y0] (e_bool r) := by
  refine aval_of' T_subframe_same Gl 7 Tryd.func34 T_subframe_same_ok Tryd_mixed fun P hP _ => ?_
  unfold subframe_same at h
  conv => cbv
  refine den_own' [(1, 10000, false)] [] hP h (fun _ h => x_slices_ContainsFunc_sint_int_x2 h) fun r1 _ h => ?_
  conv => cbv
  cases h
  exact lp
def T_subframe_how : Tab := [(3, ⟨.int .i64, 1, 8, [.int .i64 (.lit 0)]⟩), (25, ⟨.struct [(0, 3), (1, 3), (2, 22)], 3, 40, [.int .i64 (.lit 0), .int .i64 (.lit 0), .nilsl]⟩), (29, ⟨.struct [(0, 3), (1, 3), (2, 3), (3, 25), (6, 27)], 10, 128, [.int .i64 (.lit 0), .int .i64 (.lit 0), .int .i64 (.lit 0), .int .i64 (.lit 0), .int .i64 (.lit 0), .nilsl, .int .i64 (.lit 0), .int .i64 (.lit 0), .nilsl, .nilsl]⟩)]
theorem T_subframe_how_ok : TabOk Tryd.prog T_subframe_how := tab_ok [3, 25, 29]
theorem v_subframe_how {y0 : subframe_Plan} {r : predict_Linear} (h : subframe_how y0 = some r) : AVal Tryd.prog Gl 37 [e_subframe_Plan y0] (e_predict_Linear r) := by
  refine aval_of' T_subframe_how Gl 17 Tryd.func37 T_subframe_how_ok Tryd_mixed fun P hP _ => ?_
  unfold subframe_how at h
  conv => cbv
  refine den_br h (fun _ h => ?_) (fun _ h => ?_)
  · conv => cbv
    refine den_call' hP h (fun _ h => v_predict_Fixed h) fun r1 _ h => ?_
    conv => cbv
    refine .mk ?_
    conv => cbv
    cases h
    exact lp
  conv => cbv
  cases h
  exact lp
def T_subframe_Best : Tab := [(3, ⟨.int .i64, 1, 8, [.int .i64 (.lit 0)]⟩), (22, ⟨.slice 3, 1, 24, [.nilsl]⟩), (27, ⟨.struct [(0, 3), (1, 3), (2, 22), (3, 22)], 4, 64, [.int .i64 (.lit 0), .int .i64 (.lit 0), .nilsl, .nilsl]⟩), (29, ⟨.struct [(0, 3), (1, 3), (2, 3), (3, 25), (6, 27)], 10, 128, [.int .i64 (.lit 0), .int .i64 (.lit 0), .int .i64 (.lit 0), .int .i64 (.lit 0), .int .i64 (.lit 0), .nilsl, .int .i64 (.lit 0), .int .i64 (.lit 0), .nilsl, .nilsl]⟩)]
theorem T_subframe_Best_ok : TabOk Tryd.prog T_subframe_Best := tab_ok [3, 22, 27, 29]
theorem v_subframe_Best {y0 : Int} {y1 : List Int} {r : subframe_Plan × Int} (h : subframe_Best y0 y1 = some r) : AVal Tryd.prog Gl 7 [e_i64 y0, (e_sl 1 e_i64) y1] (.tup [e_subframe_Plan r.1, e_i64 r.2]) := by
  refine aval_of' T_subframe_Best Gl 97 Tryd.func7 T_subframe_Best_ok Tryd_mixed fun P hP _ => ?_
  unfold subframe_Best at h
  conv => cbv
  refine den_call' hP h (fun _ h => v_subframe_sizes h) fun r1 _ h => ?_
  conv => cbv
  refine den_br h (fun _ h => ?_) (fun _ h => ?_)
  · conv => cbv
    cases h
    exact .tup _ _ lp
  conv => cbv
  refine den_call' hP h (fun _ h => v_subframe_fits h) fun r2 _ h => ?_
  conv => cbv
  refine den_br h (fun _ h => ?_) (fun _ h => ?_)
  · conv => cbv
    cases h
    exact .tup _ _ lp
  conv => cbv
  refine den_call' hP h (fun _ h => v_subframe_wasted h) fun r3 _ h => ?_
  conv => cbv
  refine .mk ?_
  conv => cbv
  refine den_call' hP h (fun _ h => v_subframe_less h) fun r4 _ h => ?_
  conv => cbv
  refine den_call' hP h (fun _ h => v_subframe_same h) fun r5 _ h => ?_
  conv => cbv
  refine den_br h (fun _ h => ?_) (fun _ h => ?_)
  · conv => cbv
    cases h
    exact .tup _ _ lp
  conv => cbv
  refine den_cut' (r := r) (subframe_Best_K1 y0 r3 r4) (fun j6 => ⟨[(0, .int .i64 (.v y0)), (4, .ptr 4 0), (7, .ptr 7 0), (8, .sl 1 e_i64 r4.1), (10, .ptr 10 0)], [(4, .var [.int .i64 (.lit 0), .int .i64 (.lit 0), .int .i64 (.lit 0), .int .i64 (.lit 0), .int .i64 (.lit 0), .nilsl, .int .i64 (.lit 0), .int .i64 (.lit 0), .nilsl, .nilsl]), (7, .var [.int .i64 (.lit 1), .int .i64 (.lit 0), .int .i64 (.v r3), .int .i64 (.lit 0), .int .i64 (.lit 0), .nilsl, .int .i64 (.lit 0), .int .i64 (.lit 0), .nilsl, .nilsl]), (10, .var [.int .i64 (.lit 2), .int .i64 (.v j6), .int .i64 (.v r3), .int .i64 (.lit 0), .int .i64 (.lit 0), .nilsl, .int .i64 (.lit 0), .int .i64 (.lit 0), .nilsl, .nilsl])], []⟩) ?_ (fun j6 h => ?_)
  · conv => cbv
    refine .mk (some [10]) (by kernel_rfl) ?_
    conv => cbv
    refine ⟨?_, ?_⟩
    · refine den_call' hP h (fun _ h => v_predict_Best h) fun r11 _ h => ?_
      conv => cbv
      refine .mk ?_
      conv => cbv
      exact den_join' h
    · refine den_call' hP h (fun _ h => v_predict_Best h) fun r12 _ h => ?_
      conv => cbv
      refine .mk ?_
      conv => cbv
      exact den_join' h
  unfold subframe_Best_K1 at h
  conv => cbv
  refine den_call' hP h (fun _ h => v_subframe_how h) fun r7 _ h => ?_
  conv => cbv
  refine .mk ?_
  conv => cbv
  refine den_call' hP h (fun _ h => v_predict_Residual h) fun r8 _ h => ?_
  conv => cbv
  refine den_call' hP h (fun _ h => v_rice_Best h) fun r9 _ h => ?_
  conv => cbv
  refine .mk ?_
  conv => cbv
  refine den_br h (fun _ h => ?_) (fun _ h => ?_)
  · conv => cbv
    cases h
    exact .tup _ _ lp
  conv => cbv
  refine .mk ?_
  conv => cbv
  refine den_call' hP h (fun _ h => v_rice_Size h) fun r10 _ h => ?_
  conv => cbv
  refine .mk ?_
  conv => cbv
  refine .mk ?_
  conv => cbv
  refine .mk ?_
  conv => cbv
  refine den_br h (fun _ h => ?_) (fun _ h => ?_)
  · conv => cbv
    cases h
    exact .tup _ _ lp
  conv => cbv
  cases h
  exact .tup _ _ lp
def T_subframe_shape : Tab := [(3, ⟨.int .i64, 1, 8, [.int .i64 (.lit 0)]⟩), (22, ⟨.slice 3, 1, 24, [.nilsl]⟩), (25, ⟨.struct [(0, 3), (1, 3), (2, 22)], 3, 40, [.int .i64 (.lit 0), .int .i64 (.lit 0), .nilsl]⟩), (27, ⟨.struct [(0, 3), (1, 3), (2, 22), (3, 22)], 4, 64, [.int .i64 (.lit 0), .int .i64 (.lit 0), .nilsl, .nilsl]⟩), (29, ⟨.struct [(0, 3), (1, 3), (2, 3), (3, 25), (6, 27)], 10, 128, [.int .i64 (.lit 0), .int .i64 (.lit 0), .int .i64 (.lit 0), .int .i64 (.lit 0), .int .i64 (.lit 0), .nilsl, .int .i64 (.lit 0), .int .i64 (.lit 0), .nilsl, .nilsl]⟩)]
theorem T_subframe_shape_ok : TabOk Tryd.prog T_subframe_shape := tab_ok [3, 22, 25, 27, 29]
theorem v_subframe_shape {y0 : subframe_Plan} {y1 : Int} {r : Int} (h : subframe_shape y0 y1 = some r) : AVal Tryd.prog Gl 71 [e_subframe_Plan y0, e_i64 y1] (e_i64 r) := by
  refine aval_of' T_subframe_shape Gl 119 Tryd.func71 T_subframe_shape_ok Tryd_mixed fun P hP _ => ?_
  unfold subframe_shape at h
  conv => cbv
  refine den_cut' (r := r) (subframe_shape_K1 y0 y1) (fun j1 => ⟨[(1, .int .i64 (.v y1)), (2, .ptr 2 0), (5, .int .i64 (.v j1.1)), (6, .int .i64 (.v j1.2))], [(2, .var [.int .i64 (.v y0.Kind), .int .i64 (.v y0.Order), .int .i64 (.v y0.Wasted), .int .i64 (.v y0.Linear.Precision), .int .i64 (.v y0.Linear.Shift), .sl 1 e_i64 y0.Linear.Coefs, .int .i64 (.v y0.Rice.Method), .int .i64 (.v y0.Rice.Order), .sl 1 e_i64 y0.Rice.Params, .sl 1 e_i64 y0.Rice.Bits])], []⟩) ?_ (fun j1 h => ?_)
  · conv => cbv
    refine den_br h (fun _ h => ?_) (fun _ h => ?_)
    · conv => cbv
      exact den_join' h
    conv => cbv
    refine den_br h (fun _ h => ?_) (fun _ h => ?_)
    · conv => cbv
      exact den_join' h
    conv => cbv
    exact den_join' h
  unfold subframe_shape_K1 at h
  conv => cbv
  refine .mk ?_
  conv => cbv
  refine .mk ?_
  conv => cbv
  refine .mk ?_
  conv => cbv
  refine .mk ?_
  conv => cbv
  refine .mk ?_
  conv => cbv
  refine .mk ?_
  conv => cbv
  refine .mk ?_
  conv => cbv
  refine .mk ?_
  conv => cbv
  refine .mk ?_
  conv => cbv
  refine .mk ?_
  conv => cbv
  refine .mk ?_
  conv => cbv
  refine .mk ?_
  conv => cbv
  refine den_br h (fun _ h => ?_) (fun _ h => ?_)
  · conv => cbv
    cases h
    exact lp
  conv => cbv
  refine .mk ?_
  conv => cbv
  refine .mk ?_
  conv => cbv
  refine .mk ?_
  conv => cbv
  refine .mk ?_
  conv => cbv
  refine .mk ?_
  conv => cbv
  refine den_br h (fun _ h => ?_) (fun _ h => ?_)
  · conv => cbv
    cases h
    exact lp
  conv => cbv
  cases h
  exact lp
def T_subframe_check : Tab := [(3, ⟨.int .i64, 1, 8, [.int .i64 (.lit 0)]⟩), (22, ⟨.slice 3, 1, 24, [.nilsl]⟩), (27, ⟨.struct [(0, 3), (1, 3), (2, 22), (3, 22)], 4, 64, [.int .i64 (.lit 0), .int .i64 (.lit 0), .nilsl, .nilsl]⟩), (29, ⟨.struct [(0, 3), (1, 3), (2, 3), (3, 25), (6, 27)], 10, 128, [.int .i64 (.lit 0), .int .i64 (.lit 0), .int .i64 (.lit 0), .int .i64 (.lit 0), .int .i64 (.lit 0), .nilsl, .int .i64 (.lit 0), .int .i64 (.lit 0), .nilsl, .nilsl]⟩)]
theorem T_subframe_check_ok : TabOk Tryd.prog T_subframe_check := tab_ok [3, 22, 27, 29]
theorem v_subframe_check {y0 : subframe_Plan} {y1 : Int} {y2 : List Int} {r : (List Int) × (List Int) × Int} (h : subframe_check y0 y1 y2 = some r) : AVal Tryd.prog Gl 49 [e_subframe_Plan y0, e_i64 y1, (e_sl 1 e_i64) y2] (.tup [(e_sl 1 e_i64) r.1, (e_sl 1 e_i64) r.2.1, e_i64 r.2.2]) := by
  refine aval_of' T_subframe_check Gl 94 Tryd.func49 T_subframe_check_ok Tryd_mixed fun P hP _ => ?_
  unfold subframe_check at h
  conv => cbv
  refine den_call' hP h (fun _ h => v_subframe_sizes h) fun r1 _ h => ?_
  conv => cbv
  refine den_br h (fun _ h => ?_) (fun _ h => ?_)
  · conv => cbv
    cases h
    exact .tup _ _ lp
  conv => cbv
  refine den_call' hP h (fun _ h => v_subframe_shape h) fun r2 _ h => ?_
  conv => cbv
  refine den_br h (fun _ h => ?_) (fun _ h => ?_)
  · conv => cbv
    cases h
    exact .tup _ _ lp
  conv => cbv
  refine .mk ?_
  conv => cbv
  refine den_call' hP h (fun _ h => v_subframe_less h) fun r3 _ h => ?_
  conv => cbv
  refine .mk ?_
  conv => cbv
  refine den_br h (fun _ h => ?_) (fun _ h => ?_)
  · conv => cbv
    cases h
    exact .tup _ _ lp
  conv => cbv
  refine den_call' hP h (fun _ h => v_subframe_fits h) fun r4 _ h => ?_
  conv => cbv
  refine den_br h (fun _ h => ?_) (fun _ h => ?_)
  · conv => cbv
    cases h
    exact .tup _ _ lp
  conv => cbv
  refine .mk ?_
  conv => cbv
  refine den_br h (fun _ h => ?_) (fun _ h => ?_)
  · conv => cbv
    refine den_call' hP h (fun _ h => v_subframe_same h) fun r5 _ h => ?_
    conv => cbv
    refine den_br h (fun _ h => ?_) (fun _ h => ?_)
    · conv => cbv
      cases h
      exact .tup _ _ lp
    conv => cbv
    refine den_br h (fun _ h => ?_) (fun _ h => ?_)
    · conv => cbv
      cases h
      exact .tup _ _ lp
    conv => cbv
    refine den_call' hP h (fun _ h => v_subframe_how h) fun r6 _ h => ?_
    conv => cbv
    refine den_call' hP h (fun _ h => v_predict_Check h) fun r7 _ h => ?_
    conv => cbv
    refine den_br h (fun _ h => ?_) (fun _ h => ?_)
    · conv => cbv
      cases h
      exact .tup _ _ lp
    conv => cbv
    refine .mk ?_
    conv => cbv
    refine den_call' hP h (fun _ h => v_rice_Check h) fun r8 _ h => ?_
    conv => cbv
    refine den_br h (fun _ h => ?_) (fun _ h => ?_)
    · conv => cbv
      cases h
      exact .tup _ _ lp
    conv => cbv
    refine den_call' hP h (fun _ h => v_subframe_how h) fun r9 _ h => ?_
    conv => cbv
    refine .mk ?_
    conv => cbv
    refine den_call' hP h (fun _ h => v_predict_Residual h) fun r10 _ h => ?_
    conv => cbv
    refine den_cut' (r := r) (subframe_check_K1 r3 r10) (fun j11 => ⟨[(6, .sl 1 e_i64 r3.1), (7, .sl 1 e_i64 r10.1), (8, .int .i64 (.v j11))], [], []⟩) ?_ (fun j11 h => ?_)
    · conv => cbv
      refine den_br h (fun _ h => ?_) (fun _ h => ?_)
      · conv => cbv
        refine .mk ?_
        conv => cbv
        refine den_call' hP h (fun _ h => v_rice_Size h) fun r12 _ h => ?_
        conv => cbv
        exact den_join' h
      conv => cbv
      exact den_join' h
    unfold subframe_check_K1 at h
    conv => cbv
    refine .mk ?_
    conv => cbv
    cases h
    exact lp
  conv => cbv
  refine den_br h (fun _ h => ?_) (fun _ h => ?_)
  · conv => cbv
    cases h
    exact .tup _ _ lp
  conv => cbv
  refine den_call' hP h (fun _ h => v_subframe_how h) fun r13 _ h => ?_
  conv => cbv
  refine den_call' hP h (fun _ h => v_predict_Check h) fun r14 _ h => ?_
  conv => cbv
  refine den_br h (fun _ h => ?_) (fun _ h => ?_)
  · conv => cbv
    cases h
    exact .tup _ _ lp
  conv => cbv
  refine .mk ?_
  conv => cbv
  refine den_call' hP h (fun _ h => v_rice_Check h) fun r15 _ h => ?_
  conv => cbv
  refine den_br h (fun _ h => ?_) (fun _ h => ?_)
  · conv => cbv
    cases h
    exact .tup _ _ lp
  conv => cbv
  refine den_call' hP h (fun _ h => v_subframe_how h) fun r16 _ h => ?_
  conv => cbv
  refine .mk ?_
  conv => cbv
  refine den_call' hP h (fun _ h => v_predict_Residual h) fun r17 _ h => ?_
  conv => cbv
  refine den_cut' (r := r) (subframe_check_K1 r3 r17) (fun j18 => ⟨[(6, .sl 1 e_i64 r3.1), (7, .sl 1 e_i64 r17.1), (8, .int .i64 (.v j18))], [], []⟩) ?_ (fun j18 h => ?_)
  · conv => cbv
    refine den_br h (fun _ h => ?_) (fun _ h => ?_)
    · conv => cbv
      refine .mk ?_
      conv => cbv
      refine den_call' hP h (fun _ h => v_rice_Size h) fun r19 _ h => ?_
      conv => cbv
      exact den_join' h
    conv => cbv
    exact den_join' h
  unfold subframe_check_K1 at h
  conv => cbv
  refine .mk ?_
  conv => cbv
  cases h
  exact lp
def Tx_subframe_Write : Tab := [(3, ⟨.int .i64, 1, 8, [.int .i64 (.lit 0)]⟩), (5, ⟨.int .u8, 1, 1, [.int .u8 (.lit 0)]⟩), (22, ⟨.slice 3, 1, 24, [.nilsl]⟩), (25, ⟨.struct [(0, 3), (1, 3), (2, 22)], 3, 40, [.int .i64 (.lit 0), .int .i64 (.lit 0), .nilsl]⟩), (27, ⟨.struct [(0, 3), (1, 3), (2, 22), (3, 22)], 4, 64, [.int .i64 (.lit 0), .int .i64 (.lit 0), .nilsl, .nilsl]⟩), (29, ⟨.struct [(0, 3), (1, 3), (2, 3), (3, 25), (6, 27)], 10, 128, [.int .i64 (.lit 0), .int .i64 (.lit 0), .int .i64 (.lit 0), .int .i64 (.lit 0), .int .i64 (.lit 0), .nilsl, .int .i64 (.lit 0), .int .i64 (.lit 0), .nilsl, .nilsl]⟩), (52, ⟨.ptr 90, 1, 8, [.nilptr]⟩)]
theorem Tx_subframe_Write_ok : TabOk Tryd.prog Tx_subframe_Write := tab_ok [3, 5, 22, 25, 27, 29, 52]
theorem x_subframe_Write {y0 : subframe_Plan} {y1 : Int} {y2 : List Int} {y3 : Int} {y4 : List Int} {r : Int × Int × (List Int)} (h : subframe_Write y0 y1 y2 y3 y4 = some r) : ACalls Tryd.prog Gl 21 [.ptr 10000 0, e_subframe_Plan y0, e_i64 y1, (e_sl 1 e_i64) y2] [(10000, .var [.int .i64 (.v y3), .osl 10001]), (10001, .arr false 5 1 e_u8 y4)] (fun x o' => x = .int .i64 (.v r.1) ∧ o' = [(10000, .var [.int .i64 (.v r.2.1), .osl 10001]), (10001, .arr false 5 1 e_u8 r.2.2)]) := by
  refine acalls_of' Tx_subframe_Write Gl 123 [10000] Tryd.func21 Tx_subframe_Write_ok Tryd_mixed fun P hP _ => ?_
  unfold subframe_Write at h
  conv => cbv
  refine den_call' hP h (fun _ h => v_subframe_check h) fun r1 _ h => ?_
  conv => cbv
  refine .mk ?_
  conv => cbv
  refine den_br h (fun _ h => ?_) (fun _ h => ?_)
  · conv => cbv
    refine .mk [(10000, 10000, false), (10001, 10001, false)] [] rfl rfl ?_ ?_
    · conv => cbv
      cases h
      exact ⟨.var _ _ lp, .arr _ _ _ _ _ _ rfl, trivial⟩
    conv => cbv
    cases h
    exact lp
  conv => cbv
  refine .mk ?_
  conv => cbv
  refine .mk ?_
  conv => cbv
  refine .data ?_
  conv => cbv
  refine den_elemV (f := e_i64) lp h fun p2 _ h => ?_
  conv => cbv
  refine den_own' [(10000, 10000, false), (10001, 10001, true)] [] hP h (fun _ h => x_bits_Writer_Put h) fun r3 _ h => ?_
  conv => cbv
  refine den_cut' (r := r) (subframe_Write_K1 y0 y1 r1) (fun j4 => ⟨[(0, .ptr 10000 0), (2, .int .i64 (.v y1)), (5, .ptr 5 0), (9, .sl 1 e_i64 r1.1), (10, .sl 1 e_i64 r1.2.1)], [(5, .var [.int .i64 (.v y0.Kind), .int .i64 (.v y0.Order), .int .i64 (.v y0.Wasted), .int .i64 (.v y0.Linear.Precision), .int .i64 (.v y0.Linear.Shift), .sl 1 e_i64 y0.Linear.Coefs, .int .i64 (.v y0.Rice.Method), .int .i64 (.v y0.Rice.Order), .sl 1 e_i64 y0.Rice.Params, .sl 1 e_i64 y0.Rice.Bits]), (10000, .var [.int .i64 (.v j4.1), .osl 10001]), (10001, .arr false 5 1 e_u8 j4.2)], []⟩) ?_ (fun j4 h => ?_)
  · conv => cbv
    refine den_br h (fun _ h => ?_) (fun _ h => ?_)
    · conv => cbv
      refine den_own' [(10000, 10000, false), (10001, 10001, true)] [] hP h (fun _ h => x_bits_Writer_Put h) fun r21 _ h => ?_
      conv => cbv
      exact den_join' h
    conv => cbv
    refine den_own' [(10000, 10000, false), (10001, 10001, true)] [] hP h (fun _ h => x_bits_Writer_Put h) fun r22 _ h => ?_
    conv => cbv
    obtain ⟨t23, ht23, h⟩ := den_let h
    refine den_own' [(10000, 10000, false), (10001, 10001, true)] [] hP h (fun _ h => x_bits_Writer_Unary h) fun r24 _ h => ?_
    conv => cbv
    exact den_join' h
  unfold subframe_Write_K1 at h
  conv => cbv
  refine .mk ?_
  conv => cbv
  refine .mk ?_
  conv => cbv
  refine .data ?_
  conv => cbv
  refine den_elemV (f := e_i64) lp h fun p5 _ h => ?_
  conv => cbv
  refine den_cut' (r := r) (subframe_Write_K2 y0 r1) (fun j6 => ⟨[(0, .ptr 10000 0), (5, .ptr 5 0), (10, .sl 1 e_i64 r1.2.1)], [(5, .var [.int .i64 (.v y0.Kind), .int .i64 (.v y0.Order), .int .i64 (.v y0.Wasted), .int .i64 (.v y0.Linear.Precision), .int .i64 (.v y0.Linear.Shift), .sl 1 e_i64 y0.Linear.Coefs, .int .i64 (.v y0.Rice.Method), .int .i64 (.v y0.Rice.Order), .sl 1 e_i64 y0.Rice.Params, .sl 1 e_i64 y0.Rice.Bits]), (10000, .var [.int .i64 (.v j6.1), .osl 10001]), (10001, .arr false 5 1 e_u8 j6.2)], []⟩) ?_ (fun j6 h => ?_)
  · conv => cbv
    refine den_sub h fun l16 _ h => ?_
    conv => cbv
    refine den_loop' (subframe_Write_L2 y0 y1 r1 l16) h (fun a17 => ⟨[(0, .ptr 10000 0), (2, .int .i64 (.v y1)), (5, .ptr 5 0), (10, .sl 1 e_i64 r1.2.1), (70, .sl 1 e_i64 l16), (71, .int .i64 (.len l16)), (72, .int .i64 (.v a17.1))], [(5, .var [.int .i64 (.v y0.Kind), .int .i64 (.v y0.Order), .int .i64 (.v y0.Wasted), .int .i64 (.v y0.Linear.Precision), .int .i64 (.v y0.Linear.Shift), .sl 1 e_i64 y0.Linear.Coefs, .int .i64 (.v y0.Rice.Method), .int .i64 (.v y0.Rice.Order), .sl 1 e_i64 y0.Rice.Params, .sl 1 e_i64 y0.Rice.Bits]), (10000, .var [.int .i64 (.v a17.2.1), .osl 10001]), (10001, .arr false 5 1 e_u8 a17.2.2)], []⟩) (fun _ _ a17 x1 h hb1 hx1 => ?_)
    unfold subframe_Write_L2 at h
    conv => cbv
    refine den_br h (fun _ h => ?_) (fun _ h => ?_)
    · conv => cbv
      refine den_elem h fun p18 _ h => ?_
      conv => cbv
      refine .mk ?_
      conv => cbv
      obtain ⟨t19, ht19, h⟩ := den_let h
      refine den_own' [(10000, 10000, false), (10001, 10001, true)] [] hP h (fun _ h => x_bits_Writer_Signed h) fun r20 _ h => ?_
      conv => cbv
      exact den_back' h hb1
    conv => cbv
    replace h := den_out h hx1
    exact den_join' h
  unfold subframe_Write_K2 at h
  conv => cbv
  refine den_cut' (r := r) (subframe_Write_K3 j6) (fun j7 => ⟨[], [(10000, .var [.int .i64 (.v j6.1), .osl 10001]), (10001, .arr false 5 1 e_u8 j6.2)], []⟩) ?_ (fun j7 h => ?_)
  · conv => cbv
    refine den_cut' (r := r) (subframe_Write_K4 y0 r1) (fun j8 => ⟨[(0, .ptr 10000 0), (5, .ptr 5 0), (10, .sl 1 e_i64 r1.2.1)], [(5, .var [.int .i64 (.v y0.Kind), .int .i64 (.v y0.Order), .int .i64 (.v y0.Wasted), .int .i64 (.v y0.Linear.Precision), .int .i64 (.v y0.Linear.Shift), .sl 1 e_i64 y0.Linear.Coefs, .int .i64 (.v y0.Rice.Method), .int .i64 (.v y0.Rice.Order), .sl 1 e_i64 y0.Rice.Params, .sl 1 e_i64 y0.Rice.Bits]), (10000, .var [.int .i64 (.v j8.1), .osl 10001]), (10001, .arr false 5 1 e_u8 j8.2)], []⟩) ?_ (fun j8 h => ?_)
    · conv => cbv
      refine den_br h (fun _ h => ?_) (fun _ h => ?_)
      · conv => cbv
        refine .mk ?_
        conv => cbv
        obtain ⟨t10, ht10, h⟩ := den_let h
        refine den_own' [(10000, 10000, false), (10001, 10001, true)] [] hP h (fun _ h => x_bits_Writer_Put h) fun r11 _ h => ?_
        conv => cbv
        refine den_own' [(10000, 10000, false), (10001, 10001, true)] [] hP h (fun _ h => x_bits_Writer_Signed h) fun r12 _ h => ?_
        conv => cbv
        refine den_loop' (subframe_Write_L1 y0 r1) h (fun a13 => ⟨[(0, .ptr 10000 0), (5, .ptr 5 0), (10, .sl 1 e_i64 r1.2.1), (103, .sl 1 e_i64 y0.Linear.Coefs), (104, .int .i64 (.len y0.Linear.Coefs)), (105, .int .i64 (.v a13.1))], [(5, .var [.int .i64 (.v y0.Kind), .int .i64 (.v y0.Order), .int .i64 (.v y0.Wasted), .int .i64 (.v y0.Linear.Precision), .int .i64 (.v y0.Linear.Shift), .sl 1 e_i64 y0.Linear.Coefs, .int .i64 (.v y0.Rice.Method), .int .i64 (.v y0.Rice.Order), .sl 1 e_i64 y0.Rice.Params, .sl 1 e_i64 y0.Rice.Bits]), (10000, .var [.int .i64 (.v a13.2.1), .osl 10001]), (10001, .arr false 5 1 e_u8 a13.2.2)], []⟩) (fun _ _ a13 x1 h hb1 hx1 => ?_)
        unfold subframe_Write_L1 at h
        conv => cbv
        refine den_br h (fun _ h => ?_) (fun _ h => ?_)
        · conv => cbv
          refine den_elem h fun p14 _ h => ?_
          conv => cbv
          refine .mk ?_
          conv => cbv
          refine den_own' [(10000, 10000, false), (10001, 10001, true)] [] hP h (fun _ h => x_bits_Writer_Signed h) fun r15 _ h => ?_
          conv => cbv
          exact den_back' h hb1
        conv => cbv
        replace h := den_out h hx1
        exact den_join' h
      conv => cbv
      refine den_br h (fun _ h => ?_) (fun _ h => ?_)
      · conv => cbv
        exact den_join' h
      conv => cbv
      exact den_join' h
    unfold subframe_Write_K4 at h
    conv => cbv
    refine .mk ?_
    conv => cbv
    refine den_own' [(10000, 10000, false), (10001, 10001, true)] [] hP h (fun _ h => x_rice_Write h) fun r9 _ h => ?_
    conv => cbv
    refine .mk [(10000, 10000, false), (10001, 10001, false)] [] rfl rfl ?_ ?_
    · conv => cbv
      cases h
      exact ⟨.var _ _ lp, .arr _ _ _ _ _ _ rfl, trivial⟩
    conv => cbv
    cases h
    exact lp
  unfold subframe_Write_K3 at h
  conv => cbv
  refine .mk [(10000, 10000, false), (10001, 10001, false)] [] rfl rfl ?_ ?_
  · conv => cbv
    cases h
    exact ⟨.var _ _ lp, .arr _ _ _ _ _ _ rfl, trivial⟩
  conv => cbv
  cases h
  exact lp
end Go.Proofs.YtpjbfealfmjddaaDoor
