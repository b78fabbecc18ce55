/- That the code answers so, printed by a program. -/
import Derived.Test.YtpjbfealfmjddaaDoorF1
import Derived.Test.YtpjbfealfmjddaaDoorIt
import Derived.Test.YtpjbfealfmjddaaDoorProg
import Derived.Test.YtpjbfealfmjddaaDoorVm
import Derived.Test.YtpjbfealfmjddaaDoorV1
set_option maxRecDepth 4000
set_option linter.all false
set_option linter.unusedVariables false
set_option linter.unusedSimpArgs false
namespace Go.Proofs.YtpjbfealfmjddaaDoor
open Go Go.Vg
def T_jetsamlaw07_Few : Tab := [(3, ⟨.int .i64, 1, 8, [.int .i64 (.lit 0)]⟩), (22, ⟨.slice 3, 1, 24, [.nilsl]⟩), (25, ⟨.struct [(0, 3), (1, 3), (2, 22)], 3, 40, [.int .i64 (.lit 0), .int .i64 (.lit 0), .nilsl]⟩), (27, ⟨.struct [(0, 3), (1, 3), (2, 22), (3, 22)], 4, 64, [.int .i64 (.lit 0), .int .i64 (.lit 0), .nilsl, .nilsl]⟩), (29, ⟨.struct [(0, 3), (1, 3), (2, 3), (3, 25), (6, 27)], 10, 128, [.int .i64 (.lit 0), .int .i64 (.lit 0), .int .i64 (.lit 0), .int .i64 (.lit 0), .int .i64 (.lit 0), .nilsl, .int .i64 (.lit 0), .int .i64 (.lit 0), .nilsl, .nilsl]⟩)]
theorem T_jetsamlaw07_Few_ok : TabOk Tryd.prog T_jetsamlaw07_Few := tab_ok [3, 22, 25, 27, 29]
theorem v_jetsamlaw07_Few {y0 : subframe_Plan} {y1 : List Int} {r : Bool} (h : jetsamlaw07_Few y0 y1 = some r) : AVal Tryd.prog Gl 19 [e_subframe_Plan y0, (e_sl 1 e_i64) y1] (e_bool r) := by
  refine aval_of' T_jetsamlaw07_Few Gl 55 Tryd.func19 T_jetsamlaw07_Few_ok Tryd_mixed fun P hP _ => ?_
  unfold jetsamlaw07_Few at h
  conv => cbv
  refine .mk ?_
  conv => cbv
  refine .mk ?_
  conv => cbv
  refine .mk ?_
  conv => cbv
  refine .mk ?_
  conv => cbv
  refine den_br h (fun _ h => ?_) (fun _ h => ?_)
  · conv => cbv
    cases h
    exact lp
  conv => cbv
  refine den_cut' (r := r) jetsamlaw07_Few_K1 (fun j1 => ⟨[], [], []⟩) ?_ (fun j1 h => ?_)
  · conv => cbv
    refine den_loop' (jetsamlaw07_Few_L1 y0 y1) h (fun a2 => ⟨[(1, .sl 1 e_i64 y1), (2, .ptr 2 0), (5, .int .i64 (.v a2))], [(2, .var [.int .i64 (.v y0.Kind), .int .i64 (.v y0.Order), .int .i64 (.v y0.Wasted), .int .i64 (.v y0.Linear.Precision), .int .i64 (.v y0.Linear.Shift), .sl 1 e_i64 y0.Linear.Coefs, .int .i64 (.v y0.Rice.Method), .int .i64 (.v y0.Rice.Order), .sl 1 e_i64 y0.Rice.Params, .sl 1 e_i64 y0.Rice.Bits])], []⟩) (fun _ _ a2 x1 h hb1 hx1 => ?_)
    unfold jetsamlaw07_Few_L1 at h
    conv => cbv
    refine den_br h (fun _ h => ?_) (fun _ h => ?_)
    · conv => cbv
      refine .mk ?_
      conv => cbv
      refine .mk ?_
      conv => cbv
      refine den_br h (fun _ h => ?_) (fun _ h => ?_)
      · conv => cbv
        refine den_elem h fun p3 _ h => ?_
        conv => cbv
        refine .mk ?_
        conv => cbv
        refine den_br h (fun _ h => ?_) (fun _ h => ?_)
        · conv => cbv
          replace h := den_out h hx1
          cases h
          exact lp
        conv => cbv
        refine den_elem h fun p4 _ h => ?_
        conv => cbv
        refine den_br h (fun _ h => ?_) (fun _ h => ?_)
        · conv => cbv
          replace h := den_out h hx1
          cases h
          exact lp
        conv => cbv
        exact den_back' h hb1
      conv => cbv
      refine .mk ?_
      conv => cbv
      exact den_back' h hb1
    conv => cbv
    replace h := den_out h hx1
    exact den_join' h
  unfold jetsamlaw07_Few_K1 at h
  conv => cbv
  cases h
  exact lp
def T_jetsamlaw01_Bytes : Tab := [(5, ⟨.int .u8, 1, 1, [.int .u8 (.lit 0)]⟩), (59, ⟨.slice 5, 1, 24, [.nilsl]⟩)]
theorem T_jetsamlaw01_Bytes_ok : TabOk Tryd.prog T_jetsamlaw01_Bytes := tab_ok [5, 59]
theorem v_jetsamlaw01_Bytes {y0 : List Int} {y1 : List Int} {r : Bool} (h : jetsamlaw01_Bytes y0 y1 = some r) : AVal Tryd.prog Gl 29 [(e_sl 1 e_u8) y0, (e_sl 1 e_u8) y1] (e_bool r) := by
  refine aval_of' T_jetsamlaw01_Bytes Gl 26 Tryd.func29 T_jetsamlaw01_Bytes_ok Tryd_mixed fun P hP _ => ?_
  unfold jetsamlaw01_Bytes at h
  conv => cbv
  refine den_br h (fun _ h => ?_) (fun _ h => ?_)
  · conv => cbv
    cases h
    exact lp
  conv => cbv
  refine den_cut' (r := r) jetsamlaw01_Bytes_K1 (fun j1 => ⟨[], [], []⟩) ?_ (fun j1 h => ?_)
  · conv => cbv
    refine den_loop' (jetsamlaw01_Bytes_L1 y0 y1) h (fun a2 => ⟨[(0, .sl 1 e_u8 y0), (1, .sl 1 e_u8 y1), (5, .int .i64 (.v a2))], [], []⟩) (fun _ _ a2 x1 h hb1 hx1 => ?_)
    unfold jetsamlaw01_Bytes_L1 at h
    conv => cbv
    refine den_br h (fun _ h => ?_) (fun _ h => ?_)
    · conv => cbv
      refine .dup ?_
      conv => cbv
      refine .mk (some []) (by kernel_rfl) ?_
      conv => cbv
      refine den_elem h fun p3 _ h => ?_
      conv => cbv
      refine .mk ?_
      conv => cbv
      refine den_elem h fun p4 _ h => ?_
      conv => cbv
      refine den_br h (fun _ h => ?_) (fun _ h => ?_)
      · conv => cbv
        replace h := den_out h hx1
        cases h
        exact lp
      conv => cbv
      exact den_back' h hb1
    conv => cbv
    replace h := den_out h hx1
    exact den_join' h
  unfold jetsamlaw01_Bytes_K1 at h
  conv => cbv
  cases h
  exact lp
def T_jetsamlaw07_awake : Tab := [(3, ⟨.int .i64, 1, 8, [.int .i64 (.lit 0)]⟩), (5, ⟨.int .u8, 1, 1, [.int .u8 (.lit 0)]⟩), (22, ⟨.slice 3, 1, 24, [.nilsl]⟩), (29, ⟨.struct [(0, 3), (1, 3), (2, 3), (3, 25), (6, 27)], 10, 128, [.int .i64 (.lit 0), .int .i64 (.lit 0), .int .i64 (.lit 0), .int .i64 (.lit 0), .int .i64 (.lit 0), .nilsl, .int .i64 (.lit 0), .int .i64 (.lit 0), .nilsl, .nilsl]⟩), (52, ⟨.ptr 90, 1, 8, [.nilptr]⟩), (59, ⟨.slice 5, 1, 24, [.nilsl]⟩)]
theorem T_jetsamlaw07_awake_ok : TabOk Tryd.prog T_jetsamlaw07_awake := tab_ok [3, 5, 22, 29, 52, 59]
theorem v_jetsamlaw07_awake {r : Bool} (h : jetsamlaw07_awake = some r) : AVal Tryd.prog Gl 6 [] (e_bool r) := by
  refine aval_of' T_jetsamlaw07_awake Gl 44 Tryd.func6 T_jetsamlaw07_awake_ok Tryd_mixed fun P hP _ => ?_
  unfold jetsamlaw07_awake at h
  conv => cbv
  refine .data ?_
  conv => cbv
  refine den_call' hP h (fun _ h => v_subframe_Best h) fun r1 _ h => ?_
  conv => cbv
  refine .mk ?_
  conv => cbv
  refine den_own' (ho := True.intro) [(10, 20000, true), (1010, 20001, true)] [] hP h (fun _ h => x_bits_NewWriter h) fun r2 _ h => ?_
  conv => cbv
  refine .data ?_
  conv => cbv
  refine den_own' [(10, 10000, false), (1010, 10001, true)] [] hP h (fun _ h => x_subframe_Write h) fun r3 _ h => ?_
  conv => cbv
  refine .mk ?_
  conv => cbv
  refine .mk ?_
  conv => cbv
  refine .mk ?_
  conv => cbv
  refine den_br h (fun _ h => ?_) (fun _ h => ?_)
  · conv => cbv
    refine den_own' [(10, 10000, false), (1010, 10001, true)] [] hP h (fun _ h => x_bits_Writer_Len h) fun r4 _ h => ?_
    conv => cbv
    refine .mk ?_
    conv => cbv
    refine den_br h (fun _ h => ?_) (fun _ h => ?_)
    · conv => cbv
      refine den_own' [(10, 10000, false), (1010, 10001, true)] [] hP h (fun _ h => x_bits_Writer_Bytes h) fun r5 _ h => ?_
      conv => cbv
      refine .data ?_
      conv => cbv
      refine den_call' hP h (fun _ h => v_jetsamlaw01_Bytes h) fun r6 _ h => ?_
      conv => cbv
      cases h
      exact lp
    conv => cbv
    cases h
    exact lp
  conv => cbv
  refine .mk ?_
  conv => cbv
  cases h
  exact lp
def T_jetsamlaw06_Plain : Tab := [(3, ⟨.int .i64, 1, 8, [.int .i64 (.lit 0)]⟩), (22, ⟨.slice 3, 1, 24, [.nilsl]⟩), (25, ⟨.struct [(0, 3), (1, 3), (2, 22)], 3, 40, [.int .i64 (.lit 0), .int .i64 (.lit 0), .nilsl]⟩), (36, ⟨.struct [(0, 3), (1, 3), (2, 22)], 3, 40, [.int .i64 (.lit 0), .int .i64 (.lit 0), .nilsl]⟩)]
theorem T_jetsamlaw06_Plain_ok : TabOk Tryd.prog T_jetsamlaw06_Plain := tab_ok [3, 22, 25, 36]
theorem v_jetsamlaw06_Plain {y0 : predict_Linear} {r : jetsamref06_Linear} (h : jetsamlaw06_Plain y0 = some r) : AVal Tryd.prog Gl 47 [e_predict_Linear y0] (e_jetsamref06_Linear r) := by
  refine aval_of' T_jetsamlaw06_Plain Gl 10 Tryd.func47 T_jetsamlaw06_Plain_ok Tryd_mixed fun P hP _ => ?_
  unfold jetsamlaw06_Plain at h
  conv => cbv
  refine .mk ?_
  conv => cbv
  cases h
  exact lp
def T_jetsamref07_Coefs : Tab := [(3, ⟨.int .i64, 1, 8, [.int .i64 (.lit 0)]⟩), (22, ⟨.slice 3, 1, 24, [.nilsl]⟩), (36, ⟨.struct [(0, 3), (1, 3), (2, 22)], 3, 40, [.int .i64 (.lit 0), .int .i64 (.lit 0), .nilsl]⟩), (81, ⟨.slice 22, 1, 24, [.nilsl]⟩)]
theorem T_jetsamref07_Coefs_ok : TabOk Tryd.prog T_jetsamref07_Coefs := tab_ok [3, 22, 36, 81]
theorem v_jetsamref07_Coefs {y0 : Int} {r : jetsamref06_Linear} (h : jetsamref07_Coefs y0 = some r) : AVal Tryd.prog Gl 14 [e_i64 y0] (e_jetsamref06_Linear r) := by
  refine aval_of' T_jetsamref07_Coefs Gl 15 Tryd.func14 T_jetsamref07_Coefs_ok Tryd_mixed fun P hP _ => ?_
  unfold jetsamref07_Coefs at h
  conv => cbv
  refine .data ?_
  conv => cbv
  refine .mk ?_
  conv => cbv
  refine .data ?_
  conv => cbv
  refine .data ?_
  conv => cbv
  refine .data ?_
  conv => cbv
  refine .data ?_
  conv => cbv
  refine .data ?_
  conv => cbv
  refine .mk ?_
  conv => cbv
  refine den_elemV (f := (e_sl 1 e_i64)) lp h fun p1 _ h => ?_
  conv => cbv
  cases h
  exact .agg _ _ lp
def T_jetsamref07_Less : Tab := [(3, ⟨.int .i64, 1, 8, [.int .i64 (.lit 0)]⟩), (22, ⟨.slice 3, 1, 24, [.nilsl]⟩)]
theorem T_jetsamref07_Less_ok : TabOk Tryd.prog T_jetsamref07_Less := tab_ok [3, 22]
theorem v_jetsamref07_Less {y0 : Int} {y1 : List Int} {r : (List Int) × Bool} (h : jetsamref07_Less y0 y1 = some r) : AVal Tryd.prog Gl 11 [e_i64 y0, (e_sl 1 e_i64) y1] (.tup [(e_sl 1 e_i64) r.1, e_bool r.2]) := by
  refine aval_of' T_jetsamref07_Less Gl 33 Tryd.func11 T_jetsamref07_Less_ok Tryd_mixed fun P hP _ => ?_
  unfold jetsamref07_Less at h
  conv => cbv
  refine den_cut' (r := r) jetsamref07_Less_K1 (fun j1 => ⟨[(6, .osl 1006)], [(1006, .arr false 3 1 e_i64 j1)], []⟩) ?_ (fun j1 h => ?_)
  · conv => cbv
    refine den_loop (jetsamref07_Less_L1 y0 y1) h (fun a2 : Int × (List Int) => ⟨[(0, .int .i64 (.v y0)), (1, .sl 1 e_i64 y1), (6, .osl 1006), (7, .int .i64 (.v a2.1))], [(1006, .arr false 3 1 e_i64 a2.2)], []⟩) ?_ (fun _ _ a2 x1 h hb1 hx1 => ?_)
    · intro j0 hj
      conv => cbv
      subst hj
      exact ⟨⟨.arr _ _ _ _ _ _ rfl, trivial⟩, .same _, .same _, .own _ _ _ _ _ _ rfl rfl, .int _ _ _ rfl, trivial⟩
    unfold jetsamref07_Less_L1 at h
    conv => cbv
    refine den_br h (fun _ h => ?_) (fun _ h => ?_)
    · conv => cbv
      refine .dup ?_
      conv => cbv
      refine .mk (some []) (by kernel_rfl) ?_
      conv => cbv
      refine den_elem h fun p3 _ h => ?_
      conv => cbv
      refine .mk ?_
      conv => cbv
      refine den_chk h fun h => ?_
      conv => cbv
      refine den_chk h fun h => ?_
      conv => cbv
      refine den_br h (fun _ h => ?_) (fun _ h => ?_)
      · conv => cbv
        replace h := den_out h hx1
        cases h
        exact .tup _ _ lp
      conv => cbv
      refine .mk (some [1006]) (by kernel_rfl) ?_
      conv => cbv
      refine den_elem h fun p4 _ h => ?_
      conv => cbv
      refine .mk ?_
      conv => cbv
      refine den_chk h fun h => ?_
      conv => cbv
      refine den_chk h fun h => ?_
      conv => cbv
      refine .data ?_
      conv => cbv
      refine den_app_own e_i64 (xs := [(W (p4.tdiv (shD .shl .i64 1 y0)))]) h rfl lp fun l5 _ h => ?_
      conv => cbv
      exact den_back' h hb1
    conv => cbv
    replace h := den_out h hx1
    exact den_join' h
  unfold jetsamref07_Less_K1 at h
  conv => cbv
  cases h
  exact .tup _ _ lp
def T_jetsamref06_Check : Tab := [(3, ⟨.int .i64, 1, 8, [.int .i64 (.lit 0)]⟩), (22, ⟨.slice 3, 1, 24, [.nilsl]⟩), (36, ⟨.struct [(0, 3), (1, 3), (2, 22)], 3, 40, [.int .i64 (.lit 0), .int .i64 (.lit 0), .nilsl]⟩)]
theorem T_jetsamref06_Check_ok : TabOk Tryd.prog T_jetsamref06_Check := tab_ok [3, 22, 36]
theorem v_jetsamref06_Check {y0 : jetsamref06_Linear} {r : Int} (h : jetsamref06_Check y0 = some r) : AVal Tryd.prog Gl 43 [e_jetsamref06_Linear y0] (e_i64 r) := by
  refine aval_of' T_jetsamref06_Check Gl 58 Tryd.func43 T_jetsamref06_Check_ok Tryd_mixed fun P hP _ => ?_
  unfold jetsamref06_Check at h
  conv => cbv
  refine .mk ?_
  conv => cbv
  refine .mk ?_
  conv => cbv
  refine .mk ?_
  conv => cbv
  refine .mk ?_
  conv => cbv
  refine den_br h (fun _ h => ?_) (fun _ h => ?_)
  · conv => cbv
    cases h
    exact lp
  conv => cbv
  refine den_cut' (r := r) jetsamref06_Check_K1 (fun j1 => ⟨[], [], []⟩) ?_ (fun j1 h => ?_)
  · conv => cbv
    refine den_loop' (jetsamref06_Check_L1 y0) h (fun a2 => ⟨[(1, .ptr 1 0), (3, .int .i64 (.v a2))], [(1, .var [.int .i64 (.v y0.Precision), .int .i64 (.v y0.Shift), .sl 1 e_i64 y0.Coefs])], []⟩) (fun _ _ a2 x1 h hb1 hx1 => ?_)
    unfold jetsamref06_Check_L1 at h
    conv => cbv
    refine den_br h (fun _ h => ?_) (fun _ h => ?_)
    · conv => cbv
      refine den_cut' (r := x1) (jetsamref06_Check_K2 a2) (fun j3 => ⟨[(1, .ptr 1 0), (3, .int .i64 (.v a2)), (57, .bool (.v j3))], [(1, .var [.int .i64 (.v y0.Precision), .int .i64 (.v y0.Shift), .sl 1 e_i64 y0.Coefs])], []⟩) ?_ (fun j3 h => ?_)
      · conv => cbv
        refine .mk (some []) (by kernel_rfl) ?_
        conv => cbv
        refine den_elem h fun p4 _ h => ?_
        conv => cbv
        refine .mk ?_
        conv => cbv
        refine den_chk h fun h => ?_
        conv => cbv
        refine .mk ?_
        conv => cbv
        refine .mk ?_
        conv => cbv
        refine den_br h (fun _ h => ?_) (fun _ h => ?_)
        · conv => cbv
          exact den_join' h
        conv => cbv
        refine den_elem h fun p5 _ h => ?_
        conv => cbv
        refine den_chk h fun h => ?_
        conv => cbv
        exact den_join' h
      unfold jetsamref06_Check_K2 at h
      conv => cbv
      refine den_br h (fun _ h => ?_) (fun _ h => ?_)
      · conv => cbv
        replace h := den_out h hx1
        cases h
        exact lp
      conv => cbv
      exact den_back' h hb1
    conv => cbv
    replace h := den_out h hx1
    exact den_join' h
  unfold jetsamref06_Check_K1 at h
  conv => cbv
  cases h
  exact lp
def T_jetsamref06_may : Tab := []
theorem T_jetsamref06_may_ok : TabOk Tryd.prog T_jetsamref06_may := tab_ok []
theorem v_jetsamref06_may {y0 : Int} {r : Bool} (h : jetsamref06_may y0 = some r) : AVal Tryd.prog Gl 41 [e_i64 y0] (e_bool r) := by
  refine aval_of' T_jetsamref06_may Gl 9 Tryd.func41 T_jetsamref06_may_ok Tryd_mixed fun P hP _ => ?_
  unfold jetsamref06_may at h
  conv => cbv
  refine .mk ?_
  conv => cbv
  cases h
  exact lp
def T_jetsamref06_Told : Tab := [(3, ⟨.int .i64, 1, 8, [.int .i64 (.lit 0)]⟩), (22, ⟨.slice 3, 1, 24, [.nilsl]⟩), (36, ⟨.struct [(0, 3), (1, 3), (2, 22)], 3, 40, [.int .i64 (.lit 0), .int .i64 (.lit 0), .nilsl]⟩)]
theorem T_jetsamref06_Told_ok : TabOk Tryd.prog T_jetsamref06_Told := tab_ok [3, 22, 36]
theorem v_jetsamref06_Told {y0 : jetsamref06_Linear} {y1 : List Int} {r : Int} (h : jetsamref06_Told y0 y1 = some r) : AVal Tryd.prog Gl 44 [e_jetsamref06_Linear y0, (e_sl 1 e_i64) y1] (e_i64 r) := by
  refine aval_of' T_jetsamref06_Told Gl 46 Tryd.func44 T_jetsamref06_Told_ok Tryd_mixed fun P hP _ => ?_
  unfold jetsamref06_Told at h
  conv => cbv
  refine den_cut' (r := r) (jetsamref06_Told_K1 y0) (fun j1 => ⟨[(2, .ptr 2 0), (5, .int .i64 (.v j1))], [(2, .var [.int .i64 (.v y0.Precision), .int .i64 (.v y0.Shift), .sl 1 e_i64 y0.Coefs])], []⟩) ?_ (fun j1 h => ?_)
  · conv => cbv
    refine den_loop' (jetsamref06_Told_L1 y0 y1) h (fun a3 => ⟨[(1, .sl 1 e_i64 y1), (2, .ptr 2 0), (5, .int .i64 (.v a3.1)), (6, .int .i64 (.v a3.2))], [(2, .var [.int .i64 (.v y0.Precision), .int .i64 (.v y0.Shift), .sl 1 e_i64 y0.Coefs])], []⟩) (fun _ _ a3 x1 h hb1 hx1 => ?_)
    unfold jetsamref06_Told_L1 at h
    conv => cbv
    refine den_br h (fun _ h => ?_) (fun _ h => ?_)
    · conv => cbv
      refine .mk (some []) (by kernel_rfl) ?_
      conv => cbv
      refine den_elem h fun p4 _ h => ?_
      conv => cbv
      refine .mk ?_
      conv => cbv
      refine .mk ?_
      conv => cbv
      refine den_elem h fun p5 _ h => ?_
      conv => cbv
      exact den_back' h hb1
    conv => cbv
    replace h := den_out h hx1
    exact den_join' h
  unfold jetsamref06_Told_K1 at h
  conv => cbv
  refine den_chk h fun h => ?_
  conv => cbv
  refine den_chk h fun h => ?_
  conv => cbv
  refine den_cut' (r := r) jetsamref06_Told_K2 (fun j2 => ⟨[(8, .int .i64 (.v j2))], [], []⟩) ?_ (fun j2 h => ?_)
  · conv => cbv
    refine den_br h (fun _ h => ?_) (fun _ h => ?_)
    · conv => cbv
      exact den_join' h
    conv => cbv
    exact den_join' h
  unfold jetsamref06_Told_K2 at h
  conv => cbv
  cases h
  exact lp
def T_jetsamref06_Residual : Tab := [(3, ⟨.int .i64, 1, 8, [.int .i64 (.lit 0)]⟩), (22, ⟨.slice 3, 1, 24, [.nilsl]⟩), (36, ⟨.struct [(0, 3), (1, 3), (2, 22)], 3, 40, [.int .i64 (.lit 0), .int .i64 (.lit 0), .nilsl]⟩)]
theorem T_jetsamref06_Residual_ok : TabOk Tryd.prog T_jetsamref06_Residual := tab_ok [3, 22, 36]
theorem v_jetsamref06_Residual {y0 : jetsamref06_Linear} {y1 : List Int} {r : (List Int) × Int} (h : jetsamref06_Residual y0 y1 = some r) : AVal Tryd.prog Gl 13 [e_jetsamref06_Linear y0, (e_sl 1 e_i64) y1] (.tup [(e_sl 1 e_i64) r.1, e_i64 r.2]) := by
  refine aval_of' T_jetsamref06_Residual Gl 51 Tryd.func13 T_jetsamref06_Residual_ok Tryd_mixed fun P hP _ => ?_
  unfold jetsamref06_Residual at h
  conv => cbv
  refine den_call' hP h (fun _ h => v_jetsamref06_Check h) fun r1 _ h => ?_
  conv => cbv
  refine den_br h (fun _ h => ?_) (fun _ h => ?_)
  · conv => cbv
    cases h
    exact .tup _ _ lp
  conv => cbv
  refine .mk ?_
  conv => cbv
  refine den_br h (fun _ h => ?_) (fun _ h => ?_)
  · conv => cbv
    cases h
    exact .tup _ _ lp
  conv => cbv
  refine den_cut' (r := r) jetsamref06_Residual_K1 (fun j2 => ⟨[(7, .osl 1007)], [(1007, .arr false 3 1 e_i64 j2)], []⟩) ?_ (fun j2 h => ?_)
  · conv => cbv
    refine den_loop (jetsamref06_Residual_L1 y0 y1) h (fun a3 : Int × (List Int) => ⟨[(1, .sl 1 e_i64 y1), (2, .ptr 2 0), (7, .osl 1007), (8, .int .i64 (.v a3.1))], [(2, .var [.int .i64 (.v y0.Precision), .int .i64 (.v y0.Shift), .sl 1 e_i64 y0.Coefs]), (1007, .arr false 3 1 e_i64 a3.2)], []⟩) ?_ (fun _ _ a3 x1 h hb1 hx1 => ?_)
    · intro j0 hj
      conv => cbv
      subst hj
      exact ⟨⟨.same _, .arr _ _ _ _ _ _ rfl, trivial⟩, .same _, .same _, .own _ _ _ _ _ _ rfl rfl, .int _ _ _ rfl, trivial⟩
    unfold jetsamref06_Residual_L1 at h
    conv => cbv
    refine den_br h (fun _ h => ?_) (fun _ h => ?_)
    · conv => cbv
      refine den_cut' (r := x1) (jetsamref06_Residual_K2 a3) (fun j4 => ⟨[(1, .sl 1 e_i64 y1), (2, .ptr 2 0), (7, .osl 1007), (8, .int .i64 (.v a3.1))], [(2, .var [.int .i64 (.v y0.Precision), .int .i64 (.v y0.Shift), .sl 1 e_i64 y0.Coefs]), (1007, .arr false 3 1 e_i64 j4)], []⟩) ?_ (fun j4 h => ?_)
      · conv => cbv
        refine .mk ?_
        conv => cbv
        refine den_elem h fun p5 _ h => ?_
        conv => cbv
        refine den_call' hP h (fun _ h => v_jetsamref06_may h) fun r6 _ h => ?_
        conv => cbv
        refine den_br h (fun _ h => ?_) (fun _ h => ?_)
        · conv => cbv
          replace h := den_out h hx1
          cases h
          exact .tup _ _ lp
        conv => cbv
        refine den_br h (fun _ h => ?_) (fun _ h => ?_)
        · conv => cbv
          refine .mk (some [1007]) (by kernel_rfl) ?_
          conv => cbv
          refine den_elem h fun p7 _ h => ?_
          conv => cbv
          refine .mk ?_
          conv => cbv
          refine den_sub h fun l8 _ h => ?_
          conv => cbv
          refine den_call' hP h (fun _ h => v_jetsamref06_Told h) fun r9 _ h => ?_
          conv => cbv
          refine .mk ?_
          conv => cbv
          refine .data ?_
          conv => cbv
          refine den_app_own e_i64 (xs := [(W (p7 - r9))]) h rfl lp fun l10 _ h => ?_
          conv => cbv
          exact den_join' h
        conv => cbv
        exact den_join' h
      unfold jetsamref06_Residual_K2 at h
      conv => cbv
      exact den_back' h hb1
    conv => cbv
    replace h := den_out h hx1
    exact den_join' h
  unfold jetsamref06_Residual_K1 at h
  conv => cbv
  cases h
  exact .tup _ _ lp
def T_jetsamlaw07_long : Tab := [(3, ⟨.int .i64, 1, 8, [.int .i64 (.lit 0)]⟩), (22, ⟨.slice 3, 1, 24, [.nilsl]⟩), (25, ⟨.struct [(0, 3), (1, 3), (2, 22)], 3, 40, [.int .i64 (.lit 0), .int .i64 (.lit 0), .nilsl]⟩), (27, ⟨.struct [(0, 3), (1, 3), (2, 22), (3, 22)], 4, 64, [.int .i64 (.lit 0), .int .i64 (.lit 0), .nilsl, .nilsl]⟩), (29, ⟨.struct [(0, 3), (1, 3), (2, 3), (3, 25), (6, 27)], 10, 128, [.int .i64 (.lit 0), .int .i64 (.lit 0), .int .i64 (.lit 0), .int .i64 (.lit 0), .int .i64 (.lit 0), .nilsl, .int .i64 (.lit 0), .int .i64 (.lit 0), .nilsl, .nilsl]⟩), (36, ⟨.struct [(0, 3), (1, 3), (2, 22)], 3, 40, [.int .i64 (.lit 0), .int .i64 (.lit 0), .nilsl]⟩)]
theorem T_jetsamlaw07_long_ok : TabOk Tryd.prog T_jetsamlaw07_long := tab_ok [3, 22, 25, 27, 29, 36]
theorem v_jetsamlaw07_long {y0 : subframe_Plan} {y1 : Int} {y2 : List Int} {r : Bool} (h : jetsamlaw07_long y0 y1 y2 = some r) : AVal Tryd.prog Gl 23 [e_subframe_Plan y0, e_i64 y1, (e_sl 1 e_i64) y2] (e_bool r) := by
  refine aval_of' T_jetsamlaw07_long Gl 87 Tryd.func23 T_jetsamlaw07_long_ok Tryd_mixed fun P hP _ => ?_
  unfold jetsamlaw07_long at h
  conv => cbv
  refine .mk ?_
  conv => cbv
  refine .mk ?_
  conv => cbv
  refine .mk ?_
  conv => cbv
  refine den_br h (fun _ h => ?_) (fun _ h => ?_)
  · conv => cbv
    cases h
    exact lp
  conv => cbv
  refine den_call' hP h (fun _ h => v_jetsamlaw06_Plain h) fun r1 _ h => ?_
  conv => cbv
  refine den_cut' (r := r) (jetsamlaw07_long_K1 y0 y2) (fun j2 => ⟨[(2, .sl 1 e_i64 y2), (3, .ptr 3 0), (7, .ptr 7 0)], [(3, .var [.int .i64 (.v y0.Kind), .int .i64 (.v y0.Order), .int .i64 (.v y0.Wasted), .int .i64 (.v y0.Linear.Precision), .int .i64 (.v y0.Linear.Shift), .sl 1 e_i64 y0.Linear.Coefs, .int .i64 (.v y0.Rice.Method), .int .i64 (.v y0.Rice.Order), .sl 1 e_i64 y0.Rice.Params, .sl 1 e_i64 y0.Rice.Bits]), (7, .var [.int .i64 (.v j2.1), .int .i64 (.v j2.2.1), .sl 1 e_i64 j2.2.2])], []⟩) ?_ (fun j2 h => ?_)
  · conv => cbv
    refine den_br h (fun _ h => ?_) (fun _ h => ?_)
    · conv => cbv
      refine .mk ?_
      conv => cbv
      refine den_br h (fun _ h => ?_) (fun _ h => ?_)
      · conv => cbv
        cases h
        exact lp
      conv => cbv
      refine den_call' hP h (fun _ h => v_jetsamref07_Coefs h) fun r9 _ h => ?_
      conv => cbv
      exact den_join' h
    conv => cbv
    exact den_join' h
  unfold jetsamlaw07_long_K1 at h
  conv => cbv
  refine .mk ?_
  conv => cbv
  refine den_call' hP h (fun _ h => v_jetsamref07_Less h) fun r3 _ h => ?_
  conv => cbv
  refine .mk ?_
  conv => cbv
  refine den_call' hP h (fun _ h => v_jetsamref06_Residual h) fun r4 _ h => ?_
  conv => cbv
  refine .mk ?_
  conv => cbv
  refine den_br h (fun _ h => ?_) (fun _ h => ?_)
  · conv => cbv
    cases h
    exact lp
  conv => cbv
  refine den_cut' (r := r) jetsamlaw07_long_K2 (fun j5 => ⟨[], [], []⟩) ?_ (fun j5 h => ?_)
  · conv => cbv
    refine den_loop' (jetsamlaw07_long_L1 r4) h (fun a6 => ⟨[(10, .sl 1 e_i64 r4.1), (12, .int .i64 (.v a6))], [], []⟩) (fun _ _ a6 x1 h hb1 hx1 => ?_)
    unfold jetsamlaw07_long_L1 at h
    conv => cbv
    refine den_br h (fun _ h => ?_) (fun _ h => ?_)
    · conv => cbv
      refine .mk ?_
      conv => cbv
      refine den_elem h fun p7 _ h => ?_
      conv => cbv
      refine .mk ?_
      conv => cbv
      refine den_br h (fun _ h => ?_) (fun _ h => ?_)
      · conv => cbv
        replace h := den_out h hx1
        cases h
        exact lp
      conv => cbv
      refine den_elem h fun p8 _ h => ?_
      conv => cbv
      refine den_br h (fun _ h => ?_) (fun _ h => ?_)
      · conv => cbv
        replace h := den_out h hx1
        cases h
        exact lp
      conv => cbv
      exact den_back' h hb1
    conv => cbv
    replace h := den_out h hx1
    exact den_join' h
  unfold jetsamlaw07_long_K2 at h
  conv => cbv
  cases h
  exact lp
def T_jetsamlaw01_Ints : Tab := [(3, ⟨.int .i64, 1, 8, [.int .i64 (.lit 0)]⟩), (22, ⟨.slice 3, 1, 24, [.nilsl]⟩)]
theorem T_jetsamlaw01_Ints_ok : TabOk Tryd.prog T_jetsamlaw01_Ints := tab_ok [3, 22]
theorem v_jetsamlaw01_Ints {y0 : List Int} {y1 : List Int} {r : Bool} (h : jetsamlaw01_Ints y0 y1 = some r) : AVal Tryd.prog Gl 18 [(e_sl 1 e_i64) y0, (e_sl 1 e_i64) y1] (e_bool r) := by
  refine aval_of' T_jetsamlaw01_Ints Gl 26 Tryd.func18 T_jetsamlaw01_Ints_ok Tryd_mixed fun P hP _ => ?_
  unfold jetsamlaw01_Ints at h
  conv => cbv
  refine den_br h (fun _ h => ?_) (fun _ h => ?_)
  · conv => cbv
    cases h
    exact lp
  conv => cbv
  refine den_cut' (r := r) jetsamlaw01_Ints_K1 (fun j1 => ⟨[], [], []⟩) ?_ (fun j1 h => ?_)
  · conv => cbv
    refine den_loop' (jetsamlaw01_Ints_L1 y0 y1) h (fun a2 => ⟨[(0, .sl 1 e_i64 y0), (1, .sl 1 e_i64 y1), (5, .int .i64 (.v a2))], [], []⟩) (fun _ _ a2 x1 h hb1 hx1 => ?_)
    unfold jetsamlaw01_Ints_L1 at h
    conv => cbv
    refine den_br h (fun _ h => ?_) (fun _ h => ?_)
    · conv => cbv
      refine .dup ?_
      conv => cbv
      refine .mk (some []) (by kernel_rfl) ?_
      conv => cbv
      refine den_elem h fun p3 _ h => ?_
      conv => cbv
      refine .mk ?_
      conv => cbv
      refine den_elem h fun p4 _ h => ?_
      conv => cbv
      refine den_br h (fun _ h => ?_) (fun _ h => ?_)
      · conv => cbv
        replace h := den_out h hx1
        cases h
        exact lp
      conv => cbv
      exact den_back' h hb1
    conv => cbv
    replace h := den_out h hx1
    exact den_join' h
  unfold jetsamlaw01_Ints_K1 at h
  conv => cbv
  cases h
  exact lp
def T_jetsamlaw05_Same : Tab := [(3, ⟨.int .i64, 1, 8, [.int .i64 (.lit 0)]⟩), (22, ⟨.slice 3, 1, 24, [.nilsl]⟩), (27, ⟨.struct [(0, 3), (1, 3), (2, 22), (3, 22)], 4, 64, [.int .i64 (.lit 0), .int .i64 (.lit 0), .nilsl, .nilsl]⟩)]
theorem T_jetsamlaw05_Same_ok : TabOk Tryd.prog T_jetsamlaw05_Same := tab_ok [3, 22, 27]
theorem v_jetsamlaw05_Same {y0 : rice_Plan} {y1 : rice_Plan} {r : Bool} (h : jetsamlaw05_Same y0 y1 = some r) : AVal Tryd.prog Gl 40 [e_rice_Plan y0, e_rice_Plan y1] (e_bool r) := by
  refine aval_of' T_jetsamlaw05_Same Gl 31 Tryd.func40 T_jetsamlaw05_Same_ok Tryd_mixed fun P hP _ => ?_
  unfold jetsamlaw05_Same at h
  conv => cbv
  refine .mk ?_
  conv => cbv
  refine .mk ?_
  conv => cbv
  refine .mk ?_
  conv => cbv
  refine den_br h (fun _ h => ?_) (fun _ h => ?_)
  · conv => cbv
    refine den_call' hP h (fun _ h => v_jetsamlaw01_Ints h) fun r1 _ h => ?_
    conv => cbv
    refine .mk ?_
    conv => cbv
    refine den_br h (fun _ h => ?_) (fun _ h => ?_)
    · conv => cbv
      refine den_call' hP h (fun _ h => v_jetsamlaw01_Ints h) fun r2 _ h => ?_
      conv => cbv
      cases h
      exact lp
    conv => cbv
    cases h
    exact lp
  conv => cbv
  refine .mk ?_
  conv => cbv
  cases h
  exact lp
def T_jetsamlaw07_Same : Tab := [(3, ⟨.int .i64, 1, 8, [.int .i64 (.lit 0)]⟩), (22, ⟨.slice 3, 1, 24, [.nilsl]⟩), (25, ⟨.struct [(0, 3), (1, 3), (2, 22)], 3, 40, [.int .i64 (.lit 0), .int .i64 (.lit 0), .nilsl]⟩), (27, ⟨.struct [(0, 3), (1, 3), (2, 22), (3, 22)], 4, 64, [.int .i64 (.lit 0), .int .i64 (.lit 0), .nilsl, .nilsl]⟩), (29, ⟨.struct [(0, 3), (1, 3), (2, 3), (3, 25), (6, 27)], 10, 128, [.int .i64 (.lit 0), .int .i64 (.lit 0), .int .i64 (.lit 0), .int .i64 (.lit 0), .int .i64 (.lit 0), .nilsl, .int .i64 (.lit 0), .int .i64 (.lit 0), .nilsl, .nilsl]⟩)]
theorem T_jetsamlaw07_Same_ok : TabOk Tryd.prog T_jetsamlaw07_Same := tab_ok [3, 22, 25, 27, 29]
theorem v_jetsamlaw07_Same {y0 : subframe_Plan} {y1 : subframe_Plan} {r : Bool} (h : jetsamlaw07_Same y0 y1 = some r) : AVal Tryd.prog Gl 8 [e_subframe_Plan y0, e_subframe_Plan y1] (e_bool r) := by
  refine aval_of' T_jetsamlaw07_Same Gl 58 Tryd.func8 T_jetsamlaw07_Same_ok Tryd_mixed fun P hP _ => ?_
  unfold jetsamlaw07_Same at h
  conv => cbv
  refine .mk ?_
  conv => cbv
  refine .mk ?_
  conv => cbv
  refine .mk ?_
  conv => cbv
  refine .mk ?_
  conv => cbv
  refine .mk ?_
  conv => cbv
  refine .mk ?_
  conv => cbv
  refine .mk ?_
  conv => cbv
  refine .mk ?_
  conv => cbv
  refine den_br h (fun _ h => ?_) (fun _ h => ?_)
  · conv => cbv
    refine den_call' hP h (fun _ h => v_jetsamlaw01_Ints h) fun r1 _ h => ?_
    conv => cbv
    refine .mk ?_
    conv => cbv
    refine den_br h (fun _ h => ?_) (fun _ h => ?_)
    · conv => cbv
      refine den_call' hP h (fun _ h => v_jetsamlaw05_Same h) fun r2 _ h => ?_
      conv => cbv
      cases h
      exact lp
    conv => cbv
    cases h
    exact lp
  conv => cbv
  refine .mk ?_
  conv => cbv
  cases h
  exact lp
def T_jetsamlaw07_SubframeBack : Tab := [(3, ⟨.int .i64, 1, 8, [.int .i64 (.lit 0)]⟩), (5, ⟨.int .u8, 1, 1, [.int .u8 (.lit 0)]⟩), (22, ⟨.slice 3, 1, 24, [.nilsl]⟩), (29, ⟨.struct [(0, 3), (1, 3), (2, 3), (3, 25), (6, 27)], 10, 128, [.int .i64 (.lit 0), .int .i64 (.lit 0), .int .i64 (.lit 0), .int .i64 (.lit 0), .int .i64 (.lit 0), .nilsl, .int .i64 (.lit 0), .int .i64 (.lit 0), .nilsl, .nilsl]⟩), (52, ⟨.ptr 90, 1, 8, [.nilptr]⟩), (56, ⟨.arr 2 22, 2, 48, [.nilsl, .nilsl]⟩), (59, ⟨.slice 5, 1, 24, [.nilsl]⟩), (60, ⟨.ptr 97, 1, 8, [.nilptr]⟩), (95, ⟨.slice 59, 1, 24, [.nilsl]⟩)]
theorem T_jetsamlaw07_SubframeBack_ok : TabOk Tryd.prog T_jetsamlaw07_SubframeBack := tab_ok [3, 5, 22, 29, 52, 56, 59, 60, 95]
theorem v_jetsamlaw07_SubframeBack {y0 : subframe_Plan} {y1 : Int} {y2 : Arr2 (List Int)} {r : Bool} (h : jetsamlaw07_SubframeBack y0 y1 y2 = some r) : AVal Tryd.prog Gl 5 [e_subframe_Plan y0, e_i64 y1, (e_arr2 (e_sl 1 e_i64)) y2] (e_bool r) := by
  refine aval_of' T_jetsamlaw07_SubframeBack Gl 105 Tryd.func5 T_jetsamlaw07_SubframeBack_ok Tryd_mixed fun P hP _ => ?_
  unfold jetsamlaw07_SubframeBack at h
  conv => cbv
  refine den_call' hP h (fun _ h => v_jetsamlaw07_Few h) fun r1 _ h => ?_
  conv => cbv
  refine .mk ?_
  conv => cbv
  refine den_br h (fun _ h => ?_) (fun _ h => ?_)
  · conv => cbv
    refine .mk ?_
    conv => cbv
    refine den_call' hP h (fun _ h => v_jetsamlaw07_awake h) fun r2 _ h => ?_
    conv => cbv
    cases h
    exact lp
  conv => cbv
  refine .mk ?_
  conv => cbv
  refine den_br h (fun _ h => ?_) (fun _ h => ?_)
  · conv => cbv
    refine den_call' hP h (fun _ h => v_jetsamlaw07_awake h) fun r3 _ h => ?_
    conv => cbv
    cases h
    exact lp
  conv => cbv
  refine den_call' hP h (fun _ h => v_jetsamlaw07_long h) fun r4 _ h => ?_
  conv => cbv
  refine den_br h (fun _ h => ?_) (fun _ h => ?_)
  · conv => cbv
    refine den_call' hP h (fun _ h => v_jetsamlaw07_awake h) fun r5 _ h => ?_
    conv => cbv
    cases h
    exact lp
  conv => cbv
  refine den_own' (ho := True.intro) [(35, 20000, true), (1035, 20001, true)] [] hP h (fun _ h => x_bits_NewWriter h) fun r6 _ h => ?_
  conv => cbv
  refine .mk ?_
  conv => cbv
  refine den_own' [(35, 10000, false), (1035, 10001, true)] [] hP h (fun _ h => x_subframe_Write h) fun r7 _ h => ?_
  conv => cbv
  refine den_br h (fun _ h => ?_) (fun _ h => ?_)
  · conv => cbv
    refine .mk ?_
    conv => cbv
    refine den_own' [(35, 10000, false), (1035, 10001, true)] [] hP h (fun _ h => x_bits_Writer_Len h) fun r8 _ h => ?_
    conv => cbv
    refine den_br h (fun _ h => ?_) (fun _ h => ?_)
    · conv => cbv
      refine den_call' hP h (fun _ h => v_jetsamlaw07_awake h) fun r9 _ h => ?_
      conv => cbv
      cases h
      exact lp
    conv => cbv
    cases h
    exact lp
  conv => cbv
  refine den_own' [(35, 10000, false), (1035, 10001, true)] [] hP h (fun _ h => x_bits_Writer_Len h) fun r10 _ h => ?_
  conv => cbv
  refine den_cut' (r := r) (jetsamlaw07_SubframeBack_K1 y0 y1 y2 r7) (fun j11 => ⟨[(1, .int .i64 (.v y1)), (3, .ptr 3 0), (7, .sl 1 e_i64 y2.a0), (8, .ptr 35 0), (10, .int .i64 (.v r7.2.1))], [(3, .var [.int .i64 (.v y0.Kind), .int .i64 (.v y0.Order), .int .i64 (.v y0.Wasted), .int .i64 (.v y0.Linear.Precision), .int .i64 (.v y0.Linear.Shift), .sl 1 e_i64 y0.Linear.Coefs, .int .i64 (.v y0.Rice.Method), .int .i64 (.v y0.Rice.Order), .sl 1 e_i64 y0.Rice.Params, .sl 1 e_i64 y0.Rice.Bits]), (35, .var [.int .i64 (.v j11.1), .osl 1035]), (1035, .arr false 5 1 e_u8 j11.2)], []⟩) ?_ (fun j11 h => ?_)
  · conv => cbv
    refine den_loop' (jetsamlaw07_SubframeBack_L1 y0 y1 y2 r7) h (fun a20 => ⟨[(1, .int .i64 (.v y1)), (3, .ptr 3 0), (5, .ptr 5 0), (7, .sl 1 e_i64 y2.a0), (8, .ptr 35 0), (10, .int .i64 (.v r7.2.1)), (11, .int .i64 (.v a20.1))], [(3, .var [.int .i64 (.v y0.Kind), .int .i64 (.v y0.Order), .int .i64 (.v y0.Wasted), .int .i64 (.v y0.Linear.Precision), .int .i64 (.v y0.Linear.Shift), .sl 1 e_i64 y0.Linear.Coefs, .int .i64 (.v y0.Rice.Method), .int .i64 (.v y0.Rice.Order), .sl 1 e_i64 y0.Rice.Params, .sl 1 e_i64 y0.Rice.Bits]), (5, .var [.sl 1 e_i64 y2.a0, .sl 1 e_i64 y2.a1]), (35, .var [.int .i64 (.v a20.2.1), .osl 1035]), (1035, .arr false 5 1 e_u8 a20.2.2)], []⟩) (fun _ _ a20 x1 h hb1 hx1 => ?_)
    unfold jetsamlaw07_SubframeBack_L1 at h
    conv => cbv
    refine den_br h (fun _ h => ?_) (fun _ h => ?_)
    · conv => cbv
      refine .mk ?_
      conv => cbv
      refine den_elem h fun p21 _ h => ?_
      conv => cbv
      refine .data ?_
      conv => cbv
      refine .data ?_
      conv => cbv
      obtain ⟨t22, ht22, h⟩ := den_let h
      refine den_own' [(35, 10000, false), (1035, 10001, true)] [] hP h (fun _ h => x_bits_Writer_Append h) fun r23 _ h => ?_
      conv => cbv
      exact den_back' h hb1
    conv => cbv
    replace h := den_out h hx1
    exact den_join' h
  unfold jetsamlaw07_SubframeBack_K1 at h
  conv => cbv
  refine den_own' [(35, 10000, false), (1035, 10001, true)] [] hP h (fun _ h => x_bits_Writer_Bytes h) fun r12 _ h => ?_
  conv => cbv
  refine den_own' (ho := True.intro) [(72, 20000, true)] [] hP h (fun _ h => x_bits_NewReader h) fun r13 _ h => ?_
  conv => cbv
  refine .mk ?_
  conv => cbv
  obtain ⟨t14, ht14, h⟩ := den_let h
  refine den_own' [(72, 10000, false)] [] hP h (fun _ h => x_subframe_Read h) fun r15 _ h => ?_
  conv => cbv
  refine .mk ?_
  conv => cbv
  refine .mk ?_
  conv => cbv
  refine den_br h (fun _ h => ?_) (fun _ h => ?_)
  · conv => cbv
    refine den_call' hP h (fun _ h => v_jetsamlaw01_Ints h) fun r16 _ h => ?_
    conv => cbv
    refine .mk ?_
    conv => cbv
    refine den_br h (fun _ h => ?_) (fun _ h => ?_)
    · conv => cbv
      refine den_call' hP h (fun _ h => v_jetsamlaw07_Same h) fun r17 _ h => ?_
      conv => cbv
      refine den_br h (fun _ h => ?_) (fun _ h => ?_)
      · conv => cbv
        refine den_own' [(72, 10000, false)] [] hP h (fun _ h => x_bits_Reader_At h) fun r18 _ h => ?_
        conv => cbv
        refine .mk ?_
        conv => cbv
        refine den_br h (fun _ h => ?_) (fun _ h => ?_)
        · conv => cbv
          refine den_call' hP h (fun _ h => v_jetsamlaw07_awake h) fun r19 _ h => ?_
          conv => cbv
          cases h
          exact lp
        conv => cbv
        cases h
        exact lp
      conv => cbv
      refine .mk ?_
      conv => cbv
      cases h
      exact lp
    conv => cbv
    refine .mk ?_
    conv => cbv
    cases h
    exact lp
  conv => cbv
  refine .mk ?_
  conv => cbv
  refine .mk ?_
  conv => cbv
  cases h
  exact lp
end Go.Proofs.YtpjbfealfmjddaaDoor
