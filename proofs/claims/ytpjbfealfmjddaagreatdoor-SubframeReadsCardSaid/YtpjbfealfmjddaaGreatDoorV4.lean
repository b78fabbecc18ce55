/- That the code answers so, printed by a program. -/
import Derived.Test.YtpjbfealfmjddaaGreatDoorF1
import Derived.Test.YtpjbfealfmjddaaGreatDoorIt
import Derived.Test.YtpjbfealfmjddaaGreatDoorProg
import Derived.Test.YtpjbfealfmjddaaGreatDoorVm
import Derived.Test.YtpjbfealfmjddaaGreatDoorV0
set_option maxRecDepth 4000
set_option linter.all false
set_option linter.unusedVariables false
set_option linter.unusedSimpArgs false
namespace Go.Proofs.YtpjbfealfmjddaaGreatDoor
open Go Go.Vg
def T_jetsamlaw01_Bytes : Tab := [(5, ⟨.int .u8, 1, 1, [.int .u8 (.lit 0)]⟩), (22, ⟨.slice 5, 1, 24, [.nilsl]⟩)]
theorem T_jetsamlaw01_Bytes_ok : TabOk Tryz.prog T_jetsamlaw01_Bytes := tab_ok [5, 22]
theorem v_jetsamlaw01_Bytes {y0 : List Int} {y1 : List Int} {r : Bool} (h : jetsamlaw01_Bytes y0 y1 = some r) : AVal Tryz.prog Gl 17 [(e_sl 1 e_u8) y0, (e_sl 1 e_u8) y1] (e_bool r) := by
  refine aval_of' T_jetsamlaw01_Bytes Gl 26 Tryz.func17 T_jetsamlaw01_Bytes_ok Tryz_mixed fun P hP _ => ?_
  unfold jetsamlaw01_Bytes at h
  conv => cbv
  refine den_br h (fun _ h => ?_) (fun _ h => ?_)
  · conv => cbv
    cases h
    exact lp
  conv => cbv
  refine den_cut' (r := r) jetsamlaw01_Bytes_K1 (fun j1 => ⟨[], [], []⟩) ?_ (fun j1 h => ?_)
  · conv => cbv
    refine den_loop' (jetsamlaw01_Bytes_L1 y0 y1) h (fun a2 => ⟨[(0, .sl 1 e_u8 y0), (1, .sl 1 e_u8 y1), (5, .int .i64 (.v a2))], [], []⟩) (fun _ _ a2 x1 h hb1 hx1 => ?_)
    unfold jetsamlaw01_Bytes_L1 at h
    conv => cbv
    refine den_br h (fun _ h => ?_) (fun _ h => ?_)
    · conv => cbv
      refine .dup ?_
      conv => cbv
      refine .mk (some []) (by kernel_rfl) ?_
      conv => cbv
      refine den_elem h fun p3 _ h => ?_
      conv => cbv
      refine .mk ?_
      conv => cbv
      refine den_elem h fun p4 _ h => ?_
      conv => cbv
      refine den_br h (fun _ h => ?_) (fun _ h => ?_)
      · conv => cbv
        replace h := den_out h hx1
        cases h
        exact lp
      conv => cbv
      exact den_back' h hb1
    conv => cbv
    replace h := den_out h hx1
    exact den_join' h
  unfold jetsamlaw01_Bytes_K1 at h
  conv => cbv
  cases h
  exact lp
def T_jetsamlaw07_awake : Tab := [(3, ⟨.int .i64, 1, 8, [.int .i64 (.lit 0)]⟩), (5, ⟨.int .u8, 1, 1, [.int .u8 (.lit 0)]⟩), (22, ⟨.slice 5, 1, 24, [.nilsl]⟩), (30, ⟨.slice 3, 1, 24, [.nilsl]⟩), (36, ⟨.struct [(0, 3), (1, 3), (2, 3), (3, 32), (6, 34)], 10, 128, [.int .i64 (.lit 0), .int .i64 (.lit 0), .int .i64 (.lit 0), .int .i64 (.lit 0), .int .i64 (.lit 0), .nilsl, .int .i64 (.lit 0), .int .i64 (.lit 0), .nilsl, .nilsl]⟩), (51, ⟨.ptr 89, 1, 8, [.nilptr]⟩)]
theorem T_jetsamlaw07_awake_ok : TabOk Tryz.prog T_jetsamlaw07_awake := tab_ok [3, 5, 22, 30, 36, 51]
theorem v_jetsamlaw07_awake {r : Bool} (h : jetsamlaw07_awake = some r) : AVal Tryz.prog Gl 4 [] (e_bool r) := by
  refine aval_of' T_jetsamlaw07_awake Gl 44 Tryz.func4 T_jetsamlaw07_awake_ok Tryz_mixed fun P hP _ => ?_
  unfold jetsamlaw07_awake at h
  conv => cbv
  refine .data ?_
  conv => cbv
  refine den_call' hP h (fun _ h => v_subframe_Best h) fun r1 _ h => ?_
  conv => cbv
  refine .mk ?_
  conv => cbv
  refine den_own' (ho := True.intro) [(10, 20000, true), (1010, 20001, true)] [] hP h (fun _ h => x_bits_NewWriter h) fun r2 _ h => ?_
  conv => cbv
  refine .data ?_
  conv => cbv
  refine den_own' [(10, 10000, false), (1010, 10001, true)] [] hP h (fun _ h => x_subframe_Write h) fun r3 _ h => ?_
  conv => cbv
  refine .mk ?_
  conv => cbv
  refine .mk ?_
  conv => cbv
  refine .mk ?_
  conv => cbv
  refine den_br h (fun _ h => ?_) (fun _ h => ?_)
  · conv => cbv
    refine den_own' [(10, 10000, false), (1010, 10001, true)] [] hP h (fun _ h => x_bits_Writer_Len h) fun r4 _ h => ?_
    conv => cbv
    refine .mk ?_
    conv => cbv
    refine den_br h (fun _ h => ?_) (fun _ h => ?_)
    · conv => cbv
      refine den_own' [(10, 10000, false), (1010, 10001, true)] [] hP h (fun _ h => x_bits_Writer_Bytes h) fun r5 _ h => ?_
      conv => cbv
      refine .data ?_
      conv => cbv
      refine den_call' hP h (fun _ h => v_jetsamlaw01_Bytes h) fun r6 _ h => ?_
      conv => cbv
      cases h
      exact lp
    conv => cbv
    cases h
    exact lp
  conv => cbv
  refine .mk ?_
  conv => cbv
  cases h
  exact lp
def T_jetsamref01_Bits : Tab := [(3, ⟨.int .i64, 1, 8, [.int .i64 (.lit 0)]⟩), (5, ⟨.int .u8, 1, 1, [.int .u8 (.lit 0)]⟩), (22, ⟨.slice 5, 1, 24, [.nilsl]⟩), (30, ⟨.slice 3, 1, 24, [.nilsl]⟩)]
theorem T_jetsamref01_Bits_ok : TabOk Tryz.prog T_jetsamref01_Bits := tab_ok [3, 5, 22, 30]
theorem v_jetsamref01_Bits {y0 : List Int} {r : List Int} (h : jetsamref01_Bits y0 = some r) : AVal Tryz.prog Gl 9 [(e_sl 1 e_u8) y0] ((e_sl 1 e_i64) r) := by
  refine aval_of' T_jetsamref01_Bits Gl 28 Tryz.func9 T_jetsamref01_Bits_ok Tryz_mixed fun P hP _ => ?_
  unfold jetsamref01_Bits at h
  conv => cbv
  refine den_cut' (r := r) jetsamref01_Bits_K1 (fun j1 => ⟨[(3, .osl 1003)], [(1003, .arr false 3 1 e_i64 j1)], []⟩) ?_ (fun j1 h => ?_)
  · conv => cbv
    refine den_loop (jetsamref01_Bits_L1 y0) h (fun a2 : Int × (List Int) => ⟨[(0, .sl 1 e_u8 y0), (3, .osl 1003), (4, .int .i64 (.v a2.1))], [(1003, .arr false 3 1 e_i64 a2.2)], []⟩) ?_ (fun _ _ a2 x1 h hb1 hx1 => ?_)
    · intro j0 hj
      conv => cbv
      subst hj
      exact ⟨⟨.arr _ _ _ _ _ _ rfl, trivial⟩, .same _, .own _ _ _ _ _ _ rfl rfl, .int _ _ _ rfl, trivial⟩
    unfold jetsamref01_Bits_L1 at h
    conv => cbv
    refine den_br h (fun _ h => ?_) (fun _ h => ?_)
    · conv => cbv
      refine den_cut' (r := x1) (jetsamref01_Bits_K2 a2) (fun j3 => ⟨[(0, .sl 1 e_u8 y0), (3, .osl 1003), (4, .int .i64 (.v a2.1))], [(1003, .arr false 3 1 e_i64 j3)], []⟩) ?_ (fun j3 h => ?_)
      · conv => cbv
        refine den_loop' (jetsamref01_Bits_L2 y0 a2) h (fun a4 => ⟨[(0, .sl 1 e_u8 y0), (3, .osl 1003), (4, .int .i64 (.v a2.1)), (5, .int .i64 (.v a4.1))], [(1003, .arr false 3 1 e_i64 a4.2)], []⟩) (fun _ _ a4 x2 h hb2 hx2 => ?_)
        unfold jetsamref01_Bits_L2 at h
        conv => cbv
        refine den_br h (fun _ h => ?_) (fun _ h => ?_)
        · conv => cbv
          refine .mk ?_
          conv => cbv
          refine den_elem h fun p5 _ h => ?_
          conv => cbv
          refine .mk ?_
          conv => cbv
          refine den_chk h fun h => ?_
          conv => cbv
          refine .data ?_
          conv => cbv
          refine den_app_own e_i64 (xs := [(arD .and .i64 (shD .shr .i64 p5 a4.1) 1)]) h rfl lp fun l6 _ h => ?_
          conv => cbv
          exact den_back' h hb2
        conv => cbv
        replace h := den_out h hx2
        exact den_join' h
      unfold jetsamref01_Bits_K2 at h
      conv => cbv
      exact den_back' h hb1
    conv => cbv
    replace h := den_out h hx1
    exact den_join' h
  unfold jetsamref01_Bits_K1 at h
  conv => cbv
  cases h
  exact lp
def T_jetsamlaw06_Plain : Tab := [(3, ⟨.int .i64, 1, 8, [.int .i64 (.lit 0)]⟩), (30, ⟨.slice 3, 1, 24, [.nilsl]⟩), (32, ⟨.struct [(0, 3), (1, 3), (2, 30)], 3, 40, [.int .i64 (.lit 0), .int .i64 (.lit 0), .nilsl]⟩), (42, ⟨.struct [(0, 3), (1, 3), (2, 30)], 3, 40, [.int .i64 (.lit 0), .int .i64 (.lit 0), .nilsl]⟩)]
theorem T_jetsamlaw06_Plain_ok : TabOk Tryz.prog T_jetsamlaw06_Plain := tab_ok [3, 30, 32, 42]
theorem v_jetsamlaw06_Plain {y0 : predict_Linear} {r : jetsamref06_Linear} (h : jetsamlaw06_Plain y0 = some r) : AVal Tryz.prog Gl 32 [e_predict_Linear y0] (e_jetsamref06_Linear r) := by
  refine aval_of' T_jetsamlaw06_Plain Gl 10 Tryz.func32 T_jetsamlaw06_Plain_ok Tryz_mixed fun P hP _ => ?_
  unfold jetsamlaw06_Plain at h
  conv => cbv
  refine .mk ?_
  conv => cbv
  cases h
  exact lp
def T_jetsamlaw05_Plain : Tab := [(3, ⟨.int .i64, 1, 8, [.int .i64 (.lit 0)]⟩), (30, ⟨.slice 3, 1, 24, [.nilsl]⟩), (34, ⟨.struct [(0, 3), (1, 3), (2, 30), (3, 30)], 4, 64, [.int .i64 (.lit 0), .int .i64 (.lit 0), .nilsl, .nilsl]⟩), (43, ⟨.struct [(0, 3), (1, 3), (2, 30), (3, 30)], 4, 64, [.int .i64 (.lit 0), .int .i64 (.lit 0), .nilsl, .nilsl]⟩)]
theorem T_jetsamlaw05_Plain_ok : TabOk Tryz.prog T_jetsamlaw05_Plain := tab_ok [3, 30, 34, 43]
theorem v_jetsamlaw05_Plain {y0 : rice_Plan} {r : jetsamref05_Plan} (h : jetsamlaw05_Plain y0 = some r) : AVal Tryz.prog Gl 33 [e_rice_Plan y0] (e_jetsamref05_Plan r) := by
  refine aval_of' T_jetsamlaw05_Plain Gl 12 Tryz.func33 T_jetsamlaw05_Plain_ok Tryz_mixed fun P hP _ => ?_
  unfold jetsamlaw05_Plain at h
  conv => cbv
  refine .mk ?_
  conv => cbv
  cases h
  exact lp
def T_jetsamlaw07_Plain : Tab := [(3, ⟨.int .i64, 1, 8, [.int .i64 (.lit 0)]⟩), (32, ⟨.struct [(0, 3), (1, 3), (2, 30)], 3, 40, [.int .i64 (.lit 0), .int .i64 (.lit 0), .nilsl]⟩), (34, ⟨.struct [(0, 3), (1, 3), (2, 30), (3, 30)], 4, 64, [.int .i64 (.lit 0), .int .i64 (.lit 0), .nilsl, .nilsl]⟩), (36, ⟨.struct [(0, 3), (1, 3), (2, 3), (3, 32), (6, 34)], 10, 128, [.int .i64 (.lit 0), .int .i64 (.lit 0), .int .i64 (.lit 0), .int .i64 (.lit 0), .int .i64 (.lit 0), .nilsl, .int .i64 (.lit 0), .int .i64 (.lit 0), .nilsl, .nilsl]⟩), (42, ⟨.struct [(0, 3), (1, 3), (2, 30)], 3, 40, [.int .i64 (.lit 0), .int .i64 (.lit 0), .nilsl]⟩), (43, ⟨.struct [(0, 3), (1, 3), (2, 30), (3, 30)], 4, 64, [.int .i64 (.lit 0), .int .i64 (.lit 0), .nilsl, .nilsl]⟩), (45, ⟨.struct [(0, 3), (1, 3), (2, 3), (3, 42), (6, 43)], 10, 128, [.int .i64 (.lit 0), .int .i64 (.lit 0), .int .i64 (.lit 0), .int .i64 (.lit 0), .int .i64 (.lit 0), .nilsl, .int .i64 (.lit 0), .int .i64 (.lit 0), .nilsl, .nilsl]⟩)]
theorem T_jetsamlaw07_Plain_ok : TabOk Tryz.prog T_jetsamlaw07_Plain := tab_ok [3, 32, 34, 36, 42, 43, 45]
theorem v_jetsamlaw07_Plain {y0 : subframe_Plan} {r : jetsamref07_Plan} (h : jetsamlaw07_Plain y0 = some r) : AVal Tryz.prog Gl 11 [e_subframe_Plan y0] (e_jetsamref07_Plan r) := by
  refine aval_of' T_jetsamlaw07_Plain Gl 16 Tryz.func11 T_jetsamlaw07_Plain_ok Tryz_mixed fun P hP _ => ?_
  unfold jetsamlaw07_Plain at h
  conv => cbv
  refine .dup ?_
  conv => cbv
  refine .mk (some [2]) (by kernel_rfl) ?_
  conv => cbv
  refine .mk ?_
  conv => cbv
  refine den_call' hP h (fun _ h => v_jetsamlaw06_Plain h) fun r1 _ h => ?_
  conv => cbv
  refine .mk ?_
  conv => cbv
  refine den_call' hP h (fun _ h => v_jetsamlaw05_Plain h) fun r2 _ h => ?_
  conv => cbv
  cases h
  exact lp
def T_jetsamref07_shape : Tab := [(3, ⟨.int .i64, 1, 8, [.int .i64 (.lit 0)]⟩), (30, ⟨.slice 3, 1, 24, [.nilsl]⟩), (42, ⟨.struct [(0, 3), (1, 3), (2, 30)], 3, 40, [.int .i64 (.lit 0), .int .i64 (.lit 0), .nilsl]⟩), (43, ⟨.struct [(0, 3), (1, 3), (2, 30), (3, 30)], 4, 64, [.int .i64 (.lit 0), .int .i64 (.lit 0), .nilsl, .nilsl]⟩), (45, ⟨.struct [(0, 3), (1, 3), (2, 3), (3, 42), (6, 43)], 10, 128, [.int .i64 (.lit 0), .int .i64 (.lit 0), .int .i64 (.lit 0), .int .i64 (.lit 0), .int .i64 (.lit 0), .nilsl, .int .i64 (.lit 0), .int .i64 (.lit 0), .nilsl, .nilsl]⟩)]
theorem T_jetsamref07_shape_ok : TabOk Tryz.prog T_jetsamref07_shape := tab_ok [3, 30, 42, 43, 45]
theorem v_jetsamref07_shape {y0 : jetsamref07_Plan} {y1 : Int} {r : Int} (h : jetsamref07_shape y0 y1 = some r) : AVal Tryz.prog Gl 22 [e_jetsamref07_Plan y0, e_i64 y1] (e_i64 r) := by
  refine aval_of' T_jetsamref07_shape Gl 105 Tryz.func22 T_jetsamref07_shape_ok Tryz_mixed fun P hP _ => ?_
  unfold jetsamref07_shape at h
  conv => cbv
  refine .mk ?_
  conv => cbv
  refine .mk ?_
  conv => cbv
  refine .mk ?_
  conv => cbv
  refine den_br h (fun _ h => ?_) (fun _ h => ?_)
  · conv => cbv
    cases h
    exact lp
  conv => cbv
  refine den_cut' (r := r) (jetsamref07_shape_K1 y0) (fun j1 => ⟨[(2, .ptr 2 0), (5, .int .i64 (.lit 0)), (6, .int .i64 (.v j1))], [(2, .var [.int .i64 (.v y0.Kind), .int .i64 (.v y0.Order), .int .i64 (.v y0.Wasted), .int .i64 (.v y0.Linear.Precision), .int .i64 (.v y0.Linear.Shift), .sl 1 e_i64 y0.Linear.Coefs, .int .i64 (.v y0.Rice.Method), .int .i64 (.v y0.Rice.Order), .sl 1 e_i64 y0.Rice.Params, .sl 1 e_i64 y0.Rice.Bits])], []⟩) ?_ (fun j1 h => ?_)
  · conv => cbv
    refine den_br h (fun _ h => ?_) (fun _ h => ?_)
    · conv => cbv
      exact den_join' h
    conv => cbv
    exact den_join' h
  unfold jetsamref07_shape_K1 at h
  conv => cbv
  refine den_cut' (r := r) (jetsamref07_shape_K2 y0) (fun j2 => ⟨[(2, .ptr 2 0), (5, .int .i64 (.v j2.1)), (6, .int .i64 (.v j2.2))], [(2, .var [.int .i64 (.v y0.Kind), .int .i64 (.v y0.Order), .int .i64 (.v y0.Wasted), .int .i64 (.v y0.Linear.Precision), .int .i64 (.v y0.Linear.Shift), .sl 1 e_i64 y0.Linear.Coefs, .int .i64 (.v y0.Rice.Method), .int .i64 (.v y0.Rice.Order), .sl 1 e_i64 y0.Rice.Params, .sl 1 e_i64 y0.Rice.Bits])], []⟩) ?_ (fun j2 h => ?_)
  · conv => cbv
    refine den_br h (fun _ h => ?_) (fun _ h => ?_)
    · conv => cbv
      exact den_join' h
    conv => cbv
    exact den_join' h
  unfold jetsamref07_shape_K2 at h
  conv => cbv
  refine .mk ?_
  conv => cbv
  refine den_br h (fun _ h => ?_) (fun _ h => ?_)
  · conv => cbv
    cases h
    exact lp
  conv => cbv
  refine .mk ?_
  conv => cbv
  refine .mk ?_
  conv => cbv
  refine .mk ?_
  conv => cbv
  refine den_br h (fun _ h => ?_) (fun _ h => ?_)
  · conv => cbv
    cases h
    exact lp
  conv => cbv
  refine .mk ?_
  conv => cbv
  refine .mk ?_
  conv => cbv
  refine .mk ?_
  conv => cbv
  refine .mk ?_
  conv => cbv
  refine den_br h (fun _ h => ?_) (fun _ h => ?_)
  · conv => cbv
    cases h
    exact lp
  conv => cbv
  refine .mk ?_
  conv => cbv
  refine .mk ?_
  conv => cbv
  refine den_br h (fun _ h => ?_) (fun _ h => ?_)
  · conv => cbv
    cases h
    exact lp
  conv => cbv
  cases h
  exact lp
def T_jetsamref07_Less : Tab := [(3, ⟨.int .i64, 1, 8, [.int .i64 (.lit 0)]⟩), (30, ⟨.slice 3, 1, 24, [.nilsl]⟩)]
theorem T_jetsamref07_Less_ok : TabOk Tryz.prog T_jetsamref07_Less := tab_ok [3, 30]
theorem v_jetsamref07_Less {y0 : Int} {y1 : List Int} {r : (List Int) × Bool} (h : jetsamref07_Less y0 y1 = some r) : AVal Tryz.prog Gl 23 [e_i64 y0, (e_sl 1 e_i64) y1] (.tup [(e_sl 1 e_i64) r.1, e_bool r.2]) := by
  refine aval_of' T_jetsamref07_Less Gl 33 Tryz.func23 T_jetsamref07_Less_ok Tryz_mixed fun P hP _ => ?_
  unfold jetsamref07_Less at h
  conv => cbv
  refine den_cut' (r := r) jetsamref07_Less_K1 (fun j1 => ⟨[(6, .osl 1006)], [(1006, .arr false 3 1 e_i64 j1)], []⟩) ?_ (fun j1 h => ?_)
  · conv => cbv
    refine den_loop (jetsamref07_Less_L1 y0 y1) h (fun a2 : Int × (List Int) => ⟨[(0, .int .i64 (.v y0)), (1, .sl 1 e_i64 y1), (6, .osl 1006), (7, .int .i64 (.v a2.1))], [(1006, .arr false 3 1 e_i64 a2.2)], []⟩) ?_ (fun _ _ a2 x1 h hb1 hx1 => ?_)
    · intro j0 hj
      conv => cbv
      subst hj
      exact ⟨⟨.arr _ _ _ _ _ _ rfl, trivial⟩, .same _, .same _, .own _ _ _ _ _ _ rfl rfl, .int _ _ _ rfl, trivial⟩
    unfold jetsamref07_Less_L1 at h
    conv => cbv
    refine den_br h (fun _ h => ?_) (fun _ h => ?_)
    · conv => cbv
      refine .dup ?_
      conv => cbv
      refine .mk (some []) (by kernel_rfl) ?_
      conv => cbv
      refine den_elem h fun p3 _ h => ?_
      conv => cbv
      refine .mk ?_
      conv => cbv
      refine den_chk h fun h => ?_
      conv => cbv
      refine den_chk h fun h => ?_
      conv => cbv
      refine den_br h (fun _ h => ?_) (fun _ h => ?_)
      · conv => cbv
        replace h := den_out h hx1
        cases h
        exact .tup _ _ lp
      conv => cbv
      refine .mk (some [1006]) (by kernel_rfl) ?_
      conv => cbv
      refine den_elem h fun p4 _ h => ?_
      conv => cbv
      refine .mk ?_
      conv => cbv
      refine den_chk h fun h => ?_
      conv => cbv
      refine den_chk h fun h => ?_
      conv => cbv
      refine .data ?_
      conv => cbv
      refine den_app_own e_i64 (xs := [(W (p4.tdiv (shD .shl .i64 1 y0)))]) h rfl lp fun l5 _ h => ?_
      conv => cbv
      exact den_back' h hb1
    conv => cbv
    replace h := den_out h hx1
    exact den_join' h
  unfold jetsamref07_Less_K1 at h
  conv => cbv
  cases h
  exact .tup _ _ lp
def T_jetsamref07_Fits : Tab := [(3, ⟨.int .i64, 1, 8, [.int .i64 (.lit 0)]⟩), (30, ⟨.slice 3, 1, 24, [.nilsl]⟩)]
theorem T_jetsamref07_Fits_ok : TabOk Tryz.prog T_jetsamref07_Fits := tab_ok [3, 30]
theorem v_jetsamref07_Fits {y0 : Int} {y1 : List Int} {r : Bool} (h : jetsamref07_Fits y0 y1 = some r) : AVal Tryz.prog Gl 24 [e_i64 y0, (e_sl 1 e_i64) y1] (e_bool r) := by
  refine aval_of' T_jetsamref07_Fits Gl 31 Tryz.func24 T_jetsamref07_Fits_ok Tryz_mixed fun P hP _ => ?_
  unfold jetsamref07_Fits at h
  conv => cbv
  refine den_cut' (r := r) jetsamref07_Fits_K1 (fun j1 => ⟨[], [], []⟩) ?_ (fun j1 h => ?_)
  · conv => cbv
    refine den_loop' (jetsamref07_Fits_L1 y0 y1) h (fun a2 => ⟨[(0, .int .i64 (.v y0)), (1, .sl 1 e_i64 y1), (5, .int .i64 (.v a2))], [], []⟩) (fun _ _ a2 x1 h hb1 hx1 => ?_)
    unfold jetsamref07_Fits_L1 at h
    conv => cbv
    refine den_br h (fun _ h => ?_) (fun _ h => ?_)
    · conv => cbv
      refine den_cut' (r := x1) (jetsamref07_Fits_K2 a2) (fun j3 => ⟨[(0, .int .i64 (.v y0)), (1, .sl 1 e_i64 y1), (5, .int .i64 (.v a2)), (30, .bool (.v j3))], [], []⟩) ?_ (fun j3 h => ?_)
      · conv => cbv
        refine .mk (some []) (by kernel_rfl) ?_
        conv => cbv
        refine den_elem h fun p4 _ h => ?_
        conv => cbv
        refine .mk ?_
        conv => cbv
        refine den_chk h fun h => ?_
        conv => cbv
        refine .mk ?_
        conv => cbv
        refine den_br h (fun _ h => ?_) (fun _ h => ?_)
        · conv => cbv
          refine .mk ?_
          conv => cbv
          exact den_join' h
        conv => cbv
        refine den_elem h fun p5 _ h => ?_
        conv => cbv
        refine den_chk h fun h => ?_
        conv => cbv
        refine .mk ?_
        conv => cbv
        exact den_join' h
      unfold jetsamref07_Fits_K2 at h
      conv => cbv
      refine den_br h (fun _ h => ?_) (fun _ h => ?_)
      · conv => cbv
        replace h := den_out h hx1
        cases h
        exact lp
      conv => cbv
      exact den_back' h hb1
    conv => cbv
    replace h := den_out h hx1
    exact den_join' h
  unfold jetsamref07_Fits_K1 at h
  conv => cbv
  cases h
  exact lp
def T_jetsamref01_Number : Tab := [(3, ⟨.int .i64, 1, 8, [.int .i64 (.lit 0)]⟩), (30, ⟨.slice 3, 1, 24, [.nilsl]⟩)]
theorem T_jetsamref01_Number_ok : TabOk Tryz.prog T_jetsamref01_Number := tab_ok [3, 30]
theorem v_jetsamref01_Number {y0 : List Int} {y1 : Bool} {r : Int} (h : jetsamref01_Number y0 y1 = some r) : AVal Tryz.prog Gl 55 [(e_sl 1 e_i64) y0, e_bool y1] (e_i64 r) := by
  refine aval_of' T_jetsamref01_Number Gl 30 Tryz.func55 T_jetsamref01_Number_ok Tryz_mixed fun P hP _ => ?_
  unfold jetsamref01_Number at h
  conv => cbv
  refine den_cut' (r := r) jetsamref01_Number_K1 (fun j1 => ⟨[(5, .int .i64 (.v j1))], [], []⟩) ?_ (fun j1 h => ?_)
  · conv => cbv
    refine den_loop' (jetsamref01_Number_L1 y0 y1) h (fun a2 => ⟨[(0, .sl 1 e_i64 y0), (1, .bool (.v y1)), (5, .int .i64 (.v a2.1)), (6, .int .i64 (.v a2.2))], [], []⟩) (fun _ _ a2 x1 h hb1 hx1 => ?_)
    unfold jetsamref01_Number_L1 at h
    conv => cbv
    refine den_br h (fun _ h => ?_) (fun _ h => ?_)
    · conv => cbv
      refine den_cut' (r := x1) (jetsamref01_Number_K2 a2) (fun j3 => ⟨[(0, .sl 1 e_i64 y0), (1, .bool (.v y1)), (5, .int .i64 (.v j3)), (6, .int .i64 (.v a2.2))], [], []⟩) ?_ (fun j3 h => ?_)
      · conv => cbv
        refine .mk ?_
        conv => cbv
        refine den_elem h fun p4 _ h => ?_
        conv => cbv
        refine den_br h (fun _ h => ?_) (fun _ h => ?_)
        · conv => cbv
          refine den_elem h fun p5 _ h => ?_
          conv => cbv
          exact den_join' h
        conv => cbv
        exact den_join' h
      unfold jetsamref01_Number_K2 at h
      conv => cbv
      exact den_back' h hb1
    conv => cbv
    replace h := den_out h hx1
    exact den_join' h
  unfold jetsamref01_Number_K1 at h
  conv => cbv
  cases h
  exact lp
def Tx_jetsamref01_Put : Tab := [(3, ⟨.int .i64, 1, 8, [.int .i64 (.lit 0)]⟩), (30, ⟨.slice 3, 1, 24, [.nilsl]⟩)]
theorem Tx_jetsamref01_Put_ok : TabOk Tryz.prog Tx_jetsamref01_Put := tab_ok [3, 30]
theorem x_jetsamref01_Put {y0 : Int} {y1 : Int} {y2 : Bool} {r : Int × (List Int)} (h : jetsamref01_Put y0 y1 y2 = some r) : ACalls Tryz.prog Gl 25 [.nilsl, e_i64 y0, e_i64 y1, e_bool y2] [] (fun x o' => x = .tup [.osl 20000, .int .i64 (.v r.1)] ∧ o' = [(20000, .arr false 3 1 e_i64 r.2)]) := by
  refine acalls_of' Tx_jetsamref01_Put Gl 41 [] Tryz.func25 Tx_jetsamref01_Put_ok Tryz_mixed fun P hP _ => ?_
  unfold jetsamref01_Put at h
  conv => cbv
  refine .mk ?_
  conv => cbv
  refine den_br h (fun _ h => ?_) (fun _ h => ?_)
  · conv => cbv
    refine .add 9999 3 1 e_i64 rfl rfl ?_
    refine .mk [(9999, 20000, false)] [] rfl rfl ?_ ?_
    · conv => cbv
      cases h
      exact lp
    conv => cbv
    cases h
    exact .cons _ _ _ _ (.tup _ _ (.cons _ _ _ _ (.own _ _ _ _ _ _ rfl rfl) lp)) .nil
  conv => cbv
  refine den_cut' (r := r) (jetsamref01_Put_K1 y1 y2) (fun j1 => ⟨[(0, .nilsl), (2, .int .i64 (.v y1)), (3, .bool (.v y2)), (10, .osl 1010)], [(1010, .arr false 3 1 e_i64 j1)], []⟩) ?_ (fun j1 h => ?_)
  · conv => cbv
    refine den_loop (jetsamref01_Put_L1 y1 y2) h (fun a4 : Int × (List Int) => ⟨[(0, .nilsl), (2, .int .i64 (.v y1)), (3, .bool (.v y2)), (10, .osl 1010), (11, .int .i64 (.v a4.1))], [(1010, .arr false 3 1 e_i64 a4.2)], []⟩) ?_ (fun _ _ a4 x1 h hb1 hx1 => ?_)
    · intro j0 hj
      conv => cbv
      subst hj
      exact ⟨⟨.arr _ _ _ _ _ _ rfl, trivial⟩, .same _, .same _, .same _, .own _ _ _ _ _ _ rfl rfl, .int _ _ _ rfl, trivial⟩
    unfold jetsamref01_Put_L1 at h
    conv => cbv
    refine den_br h (fun _ h => ?_) (fun _ h => ?_)
    · conv => cbv
      refine .mk ?_
      conv => cbv
      refine den_chk h fun h => ?_
      conv => cbv
      refine .data ?_
      conv => cbv
      refine den_app_own e_i64 (xs := [(arD .and .i64 (shD .shr .i64 y1 a4.1) 1)]) h rfl lp fun l5 _ h => ?_
      conv => cbv
      exact den_back' h hb1
    conv => cbv
    replace h := den_out h hx1
    exact den_join' h
  unfold jetsamref01_Put_K1 at h
  conv => cbv
  refine den_lend' hP h (fun _ h => v_jetsamref01_Number h) fun r2 _ h => ?_
  conv => cbv
  refine den_br h (fun _ h => ?_) (fun _ h => ?_)
  · conv => cbv
    refine .add 9999 3 1 e_i64 rfl rfl ?_
    refine .mk [(9999, 20000, false)] [] rfl rfl ?_ ?_
    · conv => cbv
      cases h
      exact lp
    conv => cbv
    cases h
    exact .cons _ _ _ _ (.tup _ _ (.cons _ _ _ _ (.own _ _ _ _ _ _ rfl rfl) lp)) .nil
  conv => cbv
  refine den_app_nil 1008 e_i64 (xs := j1) h (News.map rfl) fun l3 _ h => ?_
  conv => cbv
  refine .mk [(1008, 20000, false)] [] rfl rfl ?_ ?_
  · conv => cbv
    cases h
    exact lp
  conv => cbv
  cases h
  exact .cons _ _ _ _ (.tup _ _ lp) .nil
def Tx_jetsamref01_Unary : Tab := [(3, ⟨.int .i64, 1, 8, [.int .i64 (.lit 0)]⟩), (30, ⟨.slice 3, 1, 24, [.nilsl]⟩)]
theorem Tx_jetsamref01_Unary_ok : TabOk Tryz.prog Tx_jetsamref01_Unary := tab_ok [3, 30]
theorem x_jetsamref01_Unary {y0 : Int} {y1 : List Int} {r : Int × (List Int)} (h : jetsamref01_Unary y0 y1 = some r) : ACalls Tryz.prog Gl 26 [.osl 10000, e_i64 y0] [(10000, .arr false 3 1 e_i64 y1)] (fun x o' => x = .tup [.osl 10000, .int .i64 (.v r.1)] ∧ o' = [(10000, .arr false 3 1 e_i64 r.2)]) := by
  refine acalls_of' Tx_jetsamref01_Unary Gl 25 [] Tryz.func26 Tx_jetsamref01_Unary_ok Tryz_mixed fun P hP _ => ?_
  unfold jetsamref01_Unary at h
  conv => cbv
  refine .mk ?_
  conv => cbv
  refine den_br h (fun _ h => ?_) (fun _ h => ?_)
  · conv => cbv
    refine .mk [(10000, 10000, false)] [] rfl rfl ?_ ?_
    · conv => cbv
      cases h
      exact lp
    conv => cbv
    cases h
    exact .cons _ _ _ _ (.tup _ _ lp) .nil
  conv => cbv
  refine den_cut' (r := r) jetsamref01_Unary_K1 (fun j1 => ⟨[(0, .osl 10000)], [(10000, .arr false 3 1 e_i64 j1)], []⟩) ?_ (fun j1 h => ?_)
  · conv => cbv
    refine den_loop' (jetsamref01_Unary_L1 y0) h (fun a3 => ⟨[(0, .osl 10000), (1, .int .i64 (.v y0)), (6, .int .i64 (.v a3.1))], [(10000, .arr false 3 1 e_i64 a3.2)], []⟩) (fun _ _ a3 x1 h hb1 hx1 => ?_)
    unfold jetsamref01_Unary_L1 at h
    conv => cbv
    refine den_br h (fun _ h => ?_) (fun _ h => ?_)
    · conv => cbv
      refine .data ?_
      conv => cbv
      refine den_app_own e_i64 (xs := [(0 : Int)]) h rfl lp fun l4 _ h => ?_
      conv => cbv
      exact den_back' h hb1
    conv => cbv
    replace h := den_out h hx1
    exact den_join' h
  unfold jetsamref01_Unary_K1 at h
  conv => cbv
  refine .data ?_
  conv => cbv
  refine den_app_own e_i64 (xs := [(1 : Int)]) h rfl lp fun l2 _ h => ?_
  conv => cbv
  refine .mk [(10000, 10000, false)] [] rfl rfl ?_ ?_
  · conv => cbv
    cases h
    exact lp
  conv => cbv
  cases h
  exact .cons _ _ _ _ (.tup _ _ lp) .nil
def T_jetsamref07_Coefs : Tab := [(3, ⟨.int .i64, 1, 8, [.int .i64 (.lit 0)]⟩), (30, ⟨.slice 3, 1, 24, [.nilsl]⟩), (42, ⟨.struct [(0, 3), (1, 3), (2, 30)], 3, 40, [.int .i64 (.lit 0), .int .i64 (.lit 0), .nilsl]⟩), (102, ⟨.slice 30, 1, 24, [.nilsl]⟩)]
theorem T_jetsamref07_Coefs_ok : TabOk Tryz.prog T_jetsamref07_Coefs := tab_ok [3, 30, 42, 102]
theorem v_jetsamref07_Coefs {y0 : Int} {r : jetsamref06_Linear} (h : jetsamref07_Coefs y0 = some r) : AVal Tryz.prog Gl 27 [e_i64 y0] (e_jetsamref06_Linear r) := by
  refine aval_of' T_jetsamref07_Coefs Gl 15 Tryz.func27 T_jetsamref07_Coefs_ok Tryz_mixed fun P hP _ => ?_
  unfold jetsamref07_Coefs at h
  conv => cbv
  refine .data ?_
  conv => cbv
  refine .mk ?_
  conv => cbv
  refine .data ?_
  conv => cbv
  refine .data ?_
  conv => cbv
  refine .data ?_
  conv => cbv
  refine .data ?_
  conv => cbv
  refine .data ?_
  conv => cbv
  refine .mk ?_
  conv => cbv
  refine den_elemV (f := (e_sl 1 e_i64)) lp h fun p1 _ h => ?_
  conv => cbv
  cases h
  exact .agg _ _ lp
def T_jetsamref06_Check : Tab := [(3, ⟨.int .i64, 1, 8, [.int .i64 (.lit 0)]⟩), (30, ⟨.slice 3, 1, 24, [.nilsl]⟩), (42, ⟨.struct [(0, 3), (1, 3), (2, 30)], 3, 40, [.int .i64 (.lit 0), .int .i64 (.lit 0), .nilsl]⟩)]
theorem T_jetsamref06_Check_ok : TabOk Tryz.prog T_jetsamref06_Check := tab_ok [3, 30, 42]
theorem v_jetsamref06_Check {y0 : jetsamref06_Linear} {r : Int} (h : jetsamref06_Check y0 = some r) : AVal Tryz.prog Gl 28 [e_jetsamref06_Linear y0] (e_i64 r) := by
  refine aval_of' T_jetsamref06_Check Gl 58 Tryz.func28 T_jetsamref06_Check_ok Tryz_mixed fun P hP _ => ?_
  unfold jetsamref06_Check at h
  conv => cbv
  refine .mk ?_
  conv => cbv
  refine .mk ?_
  conv => cbv
  refine .mk ?_
  conv => cbv
  refine .mk ?_
  conv => cbv
  refine den_br h (fun _ h => ?_) (fun _ h => ?_)
  · conv => cbv
    cases h
    exact lp
  conv => cbv
  refine den_cut' (r := r) jetsamref06_Check_K1 (fun j1 => ⟨[], [], []⟩) ?_ (fun j1 h => ?_)
  · conv => cbv
    refine den_loop' (jetsamref06_Check_L1 y0) h (fun a2 => ⟨[(1, .ptr 1 0), (3, .int .i64 (.v a2))], [(1, .var [.int .i64 (.v y0.Precision), .int .i64 (.v y0.Shift), .sl 1 e_i64 y0.Coefs])], []⟩) (fun _ _ a2 x1 h hb1 hx1 => ?_)
    unfold jetsamref06_Check_L1 at h
    conv => cbv
    refine den_br h (fun _ h => ?_) (fun _ h => ?_)
    · conv => cbv
      refine den_cut' (r := x1) (jetsamref06_Check_K2 a2) (fun j3 => ⟨[(1, .ptr 1 0), (3, .int .i64 (.v a2)), (57, .bool (.v j3))], [(1, .var [.int .i64 (.v y0.Precision), .int .i64 (.v y0.Shift), .sl 1 e_i64 y0.Coefs])], []⟩) ?_ (fun j3 h => ?_)
      · conv => cbv
        refine .mk (some []) (by kernel_rfl) ?_
        conv => cbv
        refine den_elem h fun p4 _ h => ?_
        conv => cbv
        refine .mk ?_
        conv => cbv
        refine den_chk h fun h => ?_
        conv => cbv
        refine .mk ?_
        conv => cbv
        refine .mk ?_
        conv => cbv
        refine den_br h (fun _ h => ?_) (fun _ h => ?_)
        · conv => cbv
          exact den_join' h
        conv => cbv
        refine den_elem h fun p5 _ h => ?_
        conv => cbv
        refine den_chk h fun h => ?_
        conv => cbv
        exact den_join' h
      unfold jetsamref06_Check_K2 at h
      conv => cbv
      refine den_br h (fun _ h => ?_) (fun _ h => ?_)
      · conv => cbv
        replace h := den_out h hx1
        cases h
        exact lp
      conv => cbv
      exact den_back' h hb1
    conv => cbv
    replace h := den_out h hx1
    exact den_join' h
  unfold jetsamref06_Check_K1 at h
  conv => cbv
  cases h
  exact lp
def T_jetsamref05_Head : Tab := []
theorem T_jetsamref05_Head_ok : TabOk Tryz.prog T_jetsamref05_Head := tab_ok []
theorem v_jetsamref05_Head {y0 : Int} {y1 : Int} {y2 : Int} {y3 : Int} {r : Int} (h : jetsamref05_Head y0 y1 y2 y3 = some r) : AVal Tryz.prog Gl 56 [e_i64 y0, e_i64 y1, e_i64 y2, e_i64 y3] (e_i64 r) := by
  refine aval_of' T_jetsamref05_Head Gl 50 Tryz.func56 T_jetsamref05_Head_ok Tryz_mixed fun P hP _ => ?_
  unfold jetsamref05_Head at h
  conv => cbv
  refine .mk ?_
  conv => cbv
  refine .mk ?_
  conv => cbv
  refine den_br h (fun _ h => ?_) (fun _ h => ?_)
  · conv => cbv
    cases h
    exact lp
  conv => cbv
  refine .mk ?_
  conv => cbv
  refine .mk ?_
  conv => cbv
  refine den_br h (fun _ h => ?_) (fun _ h => ?_)
  · conv => cbv
    cases h
    exact lp
  conv => cbv
  refine .mk ?_
  conv => cbv
  refine den_chk h fun h => ?_
  conv => cbv
  refine den_chk h fun h => ?_
  conv => cbv
  refine .mk ?_
  conv => cbv
  refine den_br h (fun _ h => ?_) (fun _ h => ?_)
  · conv => cbv
    cases h
    exact lp
  conv => cbv
  refine den_chk h fun h => ?_
  conv => cbv
  refine den_chk h fun h => ?_
  conv => cbv
  refine den_br h (fun _ h => ?_) (fun _ h => ?_)
  · conv => cbv
    cases h
    exact lp
  conv => cbv
  cases h
  exact lp
def T_jetsamref05_Check : Tab := [(3, ⟨.int .i64, 1, 8, [.int .i64 (.lit 0)]⟩), (30, ⟨.slice 3, 1, 24, [.nilsl]⟩), (43, ⟨.struct [(0, 3), (1, 3), (2, 30), (3, 30)], 4, 64, [.int .i64 (.lit 0), .int .i64 (.lit 0), .nilsl, .nilsl]⟩)]
theorem T_jetsamref05_Check_ok : TabOk Tryz.prog T_jetsamref05_Check := tab_ok [3, 30, 43]
theorem v_jetsamref05_Check {y0 : jetsamref05_Plan} {y1 : Int} {y2 : Int} {r : Int} (h : jetsamref05_Check y0 y1 y2 = some r) : AVal Tryz.prog Gl 29 [e_jetsamref05_Plan y0, e_i64 y1, e_i64 y2] (e_i64 r) := by
  refine aval_of' T_jetsamref05_Check Gl 98 Tryz.func29 T_jetsamref05_Check_ok Tryz_mixed fun P hP _ => ?_
  unfold jetsamref05_Check at h
  conv => cbv
  refine .mk ?_
  conv => cbv
  refine den_call' hP h (fun _ h => v_jetsamref05_Head h) fun r1 _ h => ?_
  conv => cbv
  refine den_br h (fun _ h => ?_) (fun _ h => ?_)
  · conv => cbv
    cases h
    exact lp
  conv => cbv
  refine den_cut' (r := r) (jetsamref05_Check_K1 y0) (fun j2 => ⟨[(3, .ptr 3 0), (36, .bool (.v j2))], [(3, .var [.int .i64 (.v y0.Method), .int .i64 (.v y0.Order), .sl 1 e_i64 y0.Params, .sl 1 e_i64 y0.Bits])], []⟩) ?_ (fun j2 h => ?_)
  · conv => cbv
    refine .mk (some []) (by kernel_rfl) ?_
    conv => cbv
    refine .mk ?_
    conv => cbv
    refine den_chk h fun h => ?_
    conv => cbv
    refine .mk ?_
    conv => cbv
    refine den_br h (fun _ h => ?_) (fun _ h => ?_)
    · conv => cbv
      exact den_join' h
    conv => cbv
    refine den_chk h fun h => ?_
    conv => cbv
    exact den_join' h
  unfold jetsamref05_Check_K1 at h
  conv => cbv
  refine den_br h (fun _ h => ?_) (fun _ h => ?_)
  · conv => cbv
    cases h
    exact lp
  conv => cbv
  refine den_cut' (r := r) jetsamref05_Check_K2 (fun j3 => ⟨[], [], []⟩) ?_ (fun j3 h => ?_)
  · conv => cbv
    refine den_loop' (jetsamref05_Check_L1 y0) h (fun a4 => ⟨[(3, .ptr 3 0), (8, .int .i64 (.v a4))], [(3, .var [.int .i64 (.v y0.Method), .int .i64 (.v y0.Order), .sl 1 e_i64 y0.Params, .sl 1 e_i64 y0.Bits])], []⟩) (fun _ _ a4 x1 h hb1 hx1 => ?_)
    unfold jetsamref05_Check_L1 at h
    conv => cbv
    refine den_br h (fun _ h => ?_) (fun _ h => ?_)
    · conv => cbv
      refine den_cut' (r := x1) (jetsamref05_Check_K3 y0 a4) (fun j5 => ⟨[(3, .ptr 3 0), (8, .int .i64 (.v a4)), (9, .bool (.v j5))], [(3, .var [.int .i64 (.v y0.Method), .int .i64 (.v y0.Order), .sl 1 e_i64 y0.Params, .sl 1 e_i64 y0.Bits])], []⟩) ?_ (fun j5 h => ?_)
      · conv => cbv
        refine den_elem h fun p10 _ h => ?_
        conv => cbv
        refine .mk ?_
        conv => cbv
        refine den_br h (fun _ h => ?_) (fun _ h => ?_)
        · conv => cbv
          refine den_elem h fun p11 _ h => ?_
          conv => cbv
          refine .mk ?_
          conv => cbv
          refine .mk ?_
          conv => cbv
          refine den_br h (fun _ h => ?_) (fun _ h => ?_)
          · conv => cbv
            refine den_elem h fun p12 _ h => ?_
            conv => cbv
            exact den_join' h
          conv => cbv
          exact den_join' h
        conv => cbv
        refine .mk ?_
        conv => cbv
        refine .mk ?_
        conv => cbv
        exact den_join' h
      unfold jetsamref05_Check_K3 at h
      conv => cbv
      refine den_cut' (r := x1) (jetsamref05_Check_K4 a4 j5) (fun j6 => ⟨[(3, .ptr 3 0), (8, .int .i64 (.v a4)), (9, .bool (.v j5)), (10, .bool (.v j6))], [(3, .var [.int .i64 (.v y0.Method), .int .i64 (.v y0.Order), .sl 1 e_i64 y0.Params, .sl 1 e_i64 y0.Bits])], []⟩) ?_ (fun j6 h => ?_)
      · conv => cbv
        refine .mk (some []) (by kernel_rfl) ?_
        conv => cbv
        refine den_elem h fun p7 _ h => ?_
        conv => cbv
        refine .mk ?_
        conv => cbv
        refine .mk ?_
        conv => cbv
        refine den_br h (fun _ h => ?_) (fun _ h => ?_)
        · conv => cbv
          refine den_elem h fun p8 _ h => ?_
          conv => cbv
          refine .mk ?_
          conv => cbv
          refine den_br h (fun _ h => ?_) (fun _ h => ?_)
          · conv => cbv
            refine den_elem h fun p9 _ h => ?_
            conv => cbv
            refine .mk ?_
            conv => cbv
            exact den_join' h
          conv => cbv
          refine .mk ?_
          conv => cbv
          exact den_join' h
        conv => cbv
        refine .mk ?_
        conv => cbv
        refine .mk ?_
        conv => cbv
        exact den_join' h
      unfold jetsamref05_Check_K4 at h
      conv => cbv
      refine .mk ?_
      conv => cbv
      refine den_br h (fun _ h => ?_) (fun _ h => ?_)
      · conv => cbv
        replace h := den_out h hx1
        cases h
        exact lp
      conv => cbv
      exact den_back' h hb1
    conv => cbv
    replace h := den_out h hx1
    exact den_join' h
  unfold jetsamref05_Check_K2 at h
  conv => cbv
  cases h
  exact lp
def Tx_jetsamref01_Put_x2 : Tab := [(3, ⟨.int .i64, 1, 8, [.int .i64 (.lit 0)]⟩), (30, ⟨.slice 3, 1, 24, [.nilsl]⟩)]
theorem Tx_jetsamref01_Put_x2_ok : TabOk Tryz.prog Tx_jetsamref01_Put_x2 := tab_ok [3, 30]
theorem x_jetsamref01_Put_x2 {y0 : Int} {y1 : Int} {y2 : Bool} {y3 : List Int} {r : Int × (List Int)} (h : jetsamref01_Put_x2 y0 y1 y2 y3 = some r) : ACalls Tryz.prog Gl 25 [.osl 10000, e_i64 y0, e_i64 y1, e_bool y2] [(10000, .arr false 3 1 e_i64 y3)] (fun x o' => x = .tup [.osl 10000, .int .i64 (.v r.1)] ∧ o' = [(10000, .arr false 3 1 e_i64 r.2)]) := by
  refine acalls_of' Tx_jetsamref01_Put_x2 Gl 41 [] Tryz.func25 Tx_jetsamref01_Put_x2_ok Tryz_mixed fun P hP _ => ?_
  unfold jetsamref01_Put_x2 at h
  conv => cbv
  refine .mk ?_
  conv => cbv
  refine den_br h (fun _ h => ?_) (fun _ h => ?_)
  · conv => cbv
    refine .mk [(10000, 10000, false)] [] rfl rfl ?_ ?_
    · conv => cbv
      cases h
      exact lp
    conv => cbv
    cases h
    exact .cons _ _ _ _ (.tup _ _ lp) .nil
  conv => cbv
  refine den_cut' (r := r) (jetsamref01_Put_x2_K1 y1 y2 y3) (fun j1 => ⟨[(0, .osl 10000), (2, .int .i64 (.v y1)), (3, .bool (.v y2)), (10, .osl 1010)], [(1010, .arr false 3 1 e_i64 j1), (10000, .arr false 3 1 e_i64 y3)], []⟩) ?_ (fun j1 h => ?_)
  · conv => cbv
    refine den_loop (jetsamref01_Put_x2_L1 y1 y2 y3) h (fun a4 : Int × (List Int) => ⟨[(0, .osl 10000), (2, .int .i64 (.v y1)), (3, .bool (.v y2)), (10, .osl 1010), (11, .int .i64 (.v a4.1))], [(1010, .arr false 3 1 e_i64 a4.2), (10000, .arr false 3 1 e_i64 y3)], []⟩) ?_ (fun _ _ a4 x1 h hb1 hx1 => ?_)
    · intro j0 hj
      conv => cbv
      subst hj
      exact ⟨⟨.arr _ _ _ _ _ _ rfl, .same _, trivial⟩, .same _, .same _, .same _, .own _ _ _ _ _ _ rfl rfl, .int _ _ _ rfl, trivial⟩
    unfold jetsamref01_Put_x2_L1 at h
    conv => cbv
    refine den_br h (fun _ h => ?_) (fun _ h => ?_)
    · conv => cbv
      refine .mk ?_
      conv => cbv
      refine den_chk h fun h => ?_
      conv => cbv
      refine .data ?_
      conv => cbv
      refine den_app_own e_i64 (xs := [(arD .and .i64 (shD .shr .i64 y1 a4.1) 1)]) h rfl lp fun l5 _ h => ?_
      conv => cbv
      exact den_back' h hb1
    conv => cbv
    replace h := den_out h hx1
    exact den_join' h
  unfold jetsamref01_Put_x2_K1 at h
  conv => cbv
  refine den_lend' hP h (fun _ h => v_jetsamref01_Number h) fun r2 _ h => ?_
  conv => cbv
  refine den_br h (fun _ h => ?_) (fun _ h => ?_)
  · conv => cbv
    refine .mk [(10000, 10000, false)] [] rfl rfl ?_ ?_
    · conv => cbv
      cases h
      exact lp
    conv => cbv
    cases h
    exact .cons _ _ _ _ (.tup _ _ lp) .nil
  conv => cbv
  refine den_app_own e_i64 (xs := j1) h rfl (News.map rfl) fun l3 _ h => ?_
  conv => cbv
  refine .mk [(10000, 10000, false)] [] rfl rfl ?_ ?_
  · conv => cbv
    cases h
    exact lp
  conv => cbv
  cases h
  exact .cons _ _ _ _ (.tup _ _ lp) .nil
def T_jetsamref06_may : Tab := []
theorem T_jetsamref06_may_ok : TabOk Tryz.prog T_jetsamref06_may := tab_ok []
theorem v_jetsamref06_may {y0 : Int} {r : Bool} (h : jetsamref06_may y0 = some r) : AVal Tryz.prog Gl 57 [e_i64 y0] (e_bool r) := by
  refine aval_of' T_jetsamref06_may Gl 9 Tryz.func57 T_jetsamref06_may_ok Tryz_mixed fun P hP _ => ?_
  unfold jetsamref06_may at h
  conv => cbv
  refine .mk ?_
  conv => cbv
  cases h
  exact lp
def T_jetsamref06_Told : Tab := [(3, ⟨.int .i64, 1, 8, [.int .i64 (.lit 0)]⟩), (30, ⟨.slice 3, 1, 24, [.nilsl]⟩), (42, ⟨.struct [(0, 3), (1, 3), (2, 30)], 3, 40, [.int .i64 (.lit 0), .int .i64 (.lit 0), .nilsl]⟩)]
theorem T_jetsamref06_Told_ok : TabOk Tryz.prog T_jetsamref06_Told := tab_ok [3, 30, 42]
theorem v_jetsamref06_Told {y0 : jetsamref06_Linear} {y1 : List Int} {r : Int} (h : jetsamref06_Told y0 y1 = some r) : AVal Tryz.prog Gl 58 [e_jetsamref06_Linear y0, (e_sl 1 e_i64) y1] (e_i64 r) := by
  refine aval_of' T_jetsamref06_Told Gl 46 Tryz.func58 T_jetsamref06_Told_ok Tryz_mixed fun P hP _ => ?_
  unfold jetsamref06_Told at h
  conv => cbv
  refine den_cut' (r := r) (jetsamref06_Told_K1 y0) (fun j1 => ⟨[(2, .ptr 2 0), (5, .int .i64 (.v j1))], [(2, .var [.int .i64 (.v y0.Precision), .int .i64 (.v y0.Shift), .sl 1 e_i64 y0.Coefs])], []⟩) ?_ (fun j1 h => ?_)
  · conv => cbv
    refine den_loop' (jetsamref06_Told_L1 y0 y1) h (fun a3 => ⟨[(1, .sl 1 e_i64 y1), (2, .ptr 2 0), (5, .int .i64 (.v a3.1)), (6, .int .i64 (.v a3.2))], [(2, .var [.int .i64 (.v y0.Precision), .int .i64 (.v y0.Shift), .sl 1 e_i64 y0.Coefs])], []⟩) (fun _ _ a3 x1 h hb1 hx1 => ?_)
    unfold jetsamref06_Told_L1 at h
    conv => cbv
    refine den_br h (fun _ h => ?_) (fun _ h => ?_)
    · conv => cbv
      refine .mk (some []) (by kernel_rfl) ?_
      conv => cbv
      refine den_elem h fun p4 _ h => ?_
      conv => cbv
      refine .mk ?_
      conv => cbv
      refine .mk ?_
      conv => cbv
      refine den_elem h fun p5 _ h => ?_
      conv => cbv
      exact den_back' h hb1
    conv => cbv
    replace h := den_out h hx1
    exact den_join' h
  unfold jetsamref06_Told_K1 at h
  conv => cbv
  refine den_chk h fun h => ?_
  conv => cbv
  refine den_chk h fun h => ?_
  conv => cbv
  refine den_cut' (r := r) jetsamref06_Told_K2 (fun j2 => ⟨[(8, .int .i64 (.v j2))], [], []⟩) ?_ (fun j2 h => ?_)
  · conv => cbv
    refine den_br h (fun _ h => ?_) (fun _ h => ?_)
    · conv => cbv
      exact den_join' h
    conv => cbv
    exact den_join' h
  unfold jetsamref06_Told_K2 at h
  conv => cbv
  cases h
  exact lp
def T_jetsamref06_Residual : Tab := [(3, ⟨.int .i64, 1, 8, [.int .i64 (.lit 0)]⟩), (30, ⟨.slice 3, 1, 24, [.nilsl]⟩), (42, ⟨.struct [(0, 3), (1, 3), (2, 30)], 3, 40, [.int .i64 (.lit 0), .int .i64 (.lit 0), .nilsl]⟩)]
theorem T_jetsamref06_Residual_ok : TabOk Tryz.prog T_jetsamref06_Residual := tab_ok [3, 30, 42]
theorem v_jetsamref06_Residual {y0 : jetsamref06_Linear} {y1 : List Int} {r : (List Int) × Int} (h : jetsamref06_Residual y0 y1 = some r) : AVal Tryz.prog Gl 30 [e_jetsamref06_Linear y0, (e_sl 1 e_i64) y1] (.tup [(e_sl 1 e_i64) r.1, e_i64 r.2]) := by
  refine aval_of' T_jetsamref06_Residual Gl 51 Tryz.func30 T_jetsamref06_Residual_ok Tryz_mixed fun P hP _ => ?_
  unfold jetsamref06_Residual at h
  conv => cbv
  refine den_call' hP h (fun _ h => v_jetsamref06_Check h) fun r1 _ h => ?_
  conv => cbv
  refine den_br h (fun _ h => ?_) (fun _ h => ?_)
  · conv => cbv
    cases h
    exact .tup _ _ lp
  conv => cbv
  refine .mk ?_
  conv => cbv
  refine den_br h (fun _ h => ?_) (fun _ h => ?_)
  · conv => cbv
    cases h
    exact .tup _ _ lp
  conv => cbv
  refine den_cut' (r := r) jetsamref06_Residual_K1 (fun j2 => ⟨[(7, .osl 1007)], [(1007, .arr false 3 1 e_i64 j2)], []⟩) ?_ (fun j2 h => ?_)
  · conv => cbv
    refine den_loop (jetsamref06_Residual_L1 y0 y1) h (fun a3 : Int × (List Int) => ⟨[(1, .sl 1 e_i64 y1), (2, .ptr 2 0), (7, .osl 1007), (8, .int .i64 (.v a3.1))], [(2, .var [.int .i64 (.v y0.Precision), .int .i64 (.v y0.Shift), .sl 1 e_i64 y0.Coefs]), (1007, .arr false 3 1 e_i64 a3.2)], []⟩) ?_ (fun _ _ a3 x1 h hb1 hx1 => ?_)
    · intro j0 hj
      conv => cbv
      subst hj
      exact ⟨⟨.same _, .arr _ _ _ _ _ _ rfl, trivial⟩, .same _, .same _, .own _ _ _ _ _ _ rfl rfl, .int _ _ _ rfl, trivial⟩
    unfold jetsamref06_Residual_L1 at h
    conv => cbv
    refine den_br h (fun _ h => ?_) (fun _ h => ?_)
    · conv => cbv
      refine den_cut' (r := x1) (jetsamref06_Residual_K2 a3) (fun j4 => ⟨[(1, .sl 1 e_i64 y1), (2, .ptr 2 0), (7, .osl 1007), (8, .int .i64 (.v a3.1))], [(2, .var [.int .i64 (.v y0.Precision), .int .i64 (.v y0.Shift), .sl 1 e_i64 y0.Coefs]), (1007, .arr false 3 1 e_i64 j4)], []⟩) ?_ (fun j4 h => ?_)
      · conv => cbv
        refine .mk ?_
        conv => cbv
        refine den_elem h fun p5 _ h => ?_
        conv => cbv
        refine den_call' hP h (fun _ h => v_jetsamref06_may h) fun r6 _ h => ?_
        conv => cbv
        refine den_br h (fun _ h => ?_) (fun _ h => ?_)
        · conv => cbv
          replace h := den_out h hx1
          cases h
          exact .tup _ _ lp
        conv => cbv
        refine den_br h (fun _ h => ?_) (fun _ h => ?_)
        · conv => cbv
          refine .mk (some [1007]) (by kernel_rfl) ?_
          conv => cbv
          refine den_elem h fun p7 _ h => ?_
          conv => cbv
          refine .mk ?_
          conv => cbv
          refine den_sub h fun l8 _ h => ?_
          conv => cbv
          refine den_call' hP h (fun _ h => v_jetsamref06_Told h) fun r9 _ h => ?_
          conv => cbv
          refine .mk ?_
          conv => cbv
          refine .data ?_
          conv => cbv
          refine den_app_own e_i64 (xs := [(W (p7 - r9))]) h rfl lp fun l10 _ h => ?_
          conv => cbv
          exact den_join' h
        conv => cbv
        exact den_join' h
      unfold jetsamref06_Residual_K2 at h
      conv => cbv
      exact den_back' h hb1
    conv => cbv
    replace h := den_out h hx1
    exact den_join' h
  unfold jetsamref06_Residual_K1 at h
  conv => cbv
  cases h
  exact .tup _ _ lp
def T_jetsamref05_part : Tab := [(3, ⟨.int .i64, 1, 8, [.int .i64 (.lit 0)]⟩), (43, ⟨.struct [(0, 3), (1, 3), (2, 30), (3, 30)], 4, 64, [.int .i64 (.lit 0), .int .i64 (.lit 0), .nilsl, .nilsl]⟩)]
theorem T_jetsamref05_part_ok : TabOk Tryz.prog T_jetsamref05_part := tab_ok [3, 43]
theorem v_jetsamref05_part {y0 : jetsamref05_Plan} {y1 : Int} {y2 : Int} {y3 : Int} {r : Int} (h : jetsamref05_part y0 y1 y2 y3 = some r) : AVal Tryz.prog Gl 59 [e_jetsamref05_Plan y0, e_i64 y1, e_i64 y2, e_i64 y3] (e_i64 r) := by
  refine aval_of' T_jetsamref05_part Gl 18 Tryz.func59 T_jetsamref05_part_ok Tryz_mixed fun P hP _ => ?_
  unfold jetsamref05_part at h
  conv => cbv
  refine .mk ?_
  conv => cbv
  refine den_chk h fun h => ?_
  conv => cbv
  refine den_chk h fun h => ?_
  conv => cbv
  refine den_chk h fun h => ?_
  conv => cbv
  cases h
  exact lp
def Tx_jetsamref01_Unary_x2 : Tab := [(3, ⟨.int .i64, 1, 8, [.int .i64 (.lit 0)]⟩), (30, ⟨.slice 3, 1, 24, [.nilsl]⟩)]
theorem Tx_jetsamref01_Unary_x2_ok : TabOk Tryz.prog Tx_jetsamref01_Unary_x2 := tab_ok [3, 30]
theorem x_jetsamref01_Unary_x2 {y0 : Int} {r : Int × (List Int)} (h : jetsamref01_Unary_x2 y0 = some r) : ACalls Tryz.prog Gl 26 [.nilsl, e_i64 y0] [] (fun x o' => x = .tup [.osl 20000, .int .i64 (.v r.1)] ∧ o' = [(20000, .arr false 3 1 e_i64 r.2)]) := by
  refine acalls_of' Tx_jetsamref01_Unary_x2 Gl 25 [] Tryz.func26 Tx_jetsamref01_Unary_x2_ok Tryz_mixed fun P hP _ => ?_
  unfold jetsamref01_Unary_x2 at h
  conv => cbv
  refine .mk ?_
  conv => cbv
  refine den_br h (fun _ h => ?_) (fun _ h => ?_)
  · conv => cbv
    refine .add 9999 3 1 e_i64 rfl rfl ?_
    refine .mk [(9999, 20000, false)] [] rfl rfl ?_ ?_
    · conv => cbv
      cases h
      exact lp
    conv => cbv
    cases h
    exact .cons _ _ _ _ (.tup _ _ (.cons _ _ _ _ (.own _ _ _ _ _ _ rfl rfl) lp)) .nil
  conv => cbv
  refine den_cut' (r := r) jetsamref01_Unary_x2_K1 (fun j1 => ⟨[(0, .osl 1000)], [(1000, .arr false 3 1 e_i64 j1)], []⟩) ?_ (fun j1 h => ?_)
  · conv => cbv
    refine den_loop (jetsamref01_Unary_x2_L1 y0) h (fun a3 : Int × (List Int) => ⟨[(0, .osl 1000), (1, .int .i64 (.v y0)), (6, .int .i64 (.v a3.1))], [(1000, .arr false 3 1 e_i64 a3.2)], []⟩) ?_ (fun _ _ a3 x1 h hb1 hx1 => ?_)
    · intro j0 hj
      conv => cbv
      subst hj
      exact ⟨⟨.arr _ _ _ _ _ _ rfl, trivial⟩, .own _ _ _ _ _ _ rfl rfl, .same _, .int _ _ _ rfl, trivial⟩
    unfold jetsamref01_Unary_x2_L1 at h
    conv => cbv
    refine den_br h (fun _ h => ?_) (fun _ h => ?_)
    · conv => cbv
      refine .data ?_
      conv => cbv
      refine den_app_own e_i64 (xs := [(0 : Int)]) h rfl lp fun l4 _ h => ?_
      conv => cbv
      exact den_back' h hb1
    conv => cbv
    replace h := den_out h hx1
    exact den_join' h
  unfold jetsamref01_Unary_x2_K1 at h
  conv => cbv
  refine .data ?_
  conv => cbv
  refine den_app_own e_i64 (xs := [(1 : Int)]) h rfl lp fun l2 _ h => ?_
  conv => cbv
  refine .mk [(1000, 20000, false)] [] rfl rfl ?_ ?_
  · conv => cbv
    cases h
    exact lp
  conv => cbv
  cases h
  exact .cons _ _ _ _ (.tup _ _ lp) .nil
def T_jetsamref05_one : Tab := [(3, ⟨.int .i64, 1, 8, [.int .i64 (.lit 0)]⟩)]
theorem T_jetsamref05_one_ok : TabOk Tryz.prog T_jetsamref05_one := tab_ok [3]
theorem v_jetsamref05_one {y0 : Int} {y1 : Int} {y2 : Int} {r : (List Int) × Bool} (h : jetsamref05_one y0 y1 y2 = some r) : AVal Tryz.prog Gl 60 [e_i64 y0, e_i64 y1, e_i64 y2] (.tup [(e_sl 1 e_i64) r.1, e_bool r.2]) := by
  refine aval_of' T_jetsamref05_one Gl 63 Tryz.func60 T_jetsamref05_one_ok Tryz_mixed fun P hP _ => ?_
  unfold jetsamref05_one at h
  conv => cbv
  refine .mk ?_
  conv => cbv
  refine den_br h (fun _ h => ?_) (fun _ h => ?_)
  · conv => cbv
    cases h
    exact .tup _ _ lp
  conv => cbv
  refine den_br h (fun _ h => ?_) (fun _ h => ?_)
  · conv => cbv
    refine .mk ?_
    conv => cbv
    refine den_own' (ho := True.intro) [(1008, 20000, true)] [] hP h (fun _ h => x_jetsamref01_Put h) fun r1 _ h => ?_
    conv => cbv
    cases h
    exact .tup _ _ lp
  conv => cbv
  refine den_cut' (r := r) (jetsamref05_one_K1 y1) (fun j2 => ⟨[(1, .int .i64 (.v y1)), (8, .nilsl), (10, .int .i64 (.v j2))], [], []⟩) ?_ (fun j2 h => ?_)
  · conv => cbv
    refine den_br h (fun _ h => ?_) (fun _ h => ?_)
    · conv => cbv
      exact den_join' h
    conv => cbv
    exact den_join' h
  unfold jetsamref05_one_K1 at h
  conv => cbv
  refine den_chk h fun h => ?_
  conv => cbv
  refine den_br h (fun _ h => ?_) (fun _ h => ?_)
  · conv => cbv
    cases h
    exact .tup _ _ lp
  conv => cbv
  refine den_chk h fun h => ?_
  conv => cbv
  refine .mk ?_
  conv => cbv
  obtain ⟨t3, ht3, h⟩ := den_let h
  refine den_own' (ho := True.intro) [(1008, 20000, true)] [] hP h (fun _ h => x_jetsamref01_Unary_x2 h) fun r4 _ h => ?_
  conv => cbv
  refine den_br h (fun _ h => ?_) (fun _ h => ?_)
  · conv => cbv
    cases h
    exact .tup _ _ lp
  conv => cbv
  refine .mk ?_
  conv => cbv
  refine den_chk h fun h => ?_
  conv => cbv
  refine den_chk h fun h => ?_
  conv => cbv
  refine .mk ?_
  conv => cbv
  obtain ⟨t5, ht5, h⟩ := den_let h
  refine den_own' [(1008, 10000, true)] [] hP h (fun _ h => x_jetsamref01_Put_x2 h) fun r6 _ h => ?_
  conv => cbv
  cases h
  exact .tup _ _ lp
def T_jetsamref05_Bits : Tab := [(3, ⟨.int .i64, 1, 8, [.int .i64 (.lit 0)]⟩), (30, ⟨.slice 3, 1, 24, [.nilsl]⟩), (43, ⟨.struct [(0, 3), (1, 3), (2, 30), (3, 30)], 4, 64, [.int .i64 (.lit 0), .int .i64 (.lit 0), .nilsl, .nilsl]⟩)]
theorem T_jetsamref05_Bits_ok : TabOk Tryz.prog T_jetsamref05_Bits := tab_ok [3, 30, 43]
theorem v_jetsamref05_Bits {y0 : jetsamref05_Plan} {y1 : Int} {y2 : List Int} {r : (List Int) × Int} (h : jetsamref05_Bits y0 y1 y2 = some r) : AVal Tryz.prog Gl 31 [e_jetsamref05_Plan y0, e_i64 y1, (e_sl 1 e_i64) y2] (.tup [(e_sl 1 e_i64) r.1, e_i64 r.2]) := by
  refine aval_of' T_jetsamref05_Bits Gl 126 Tryz.func31 T_jetsamref05_Bits_ok Tryz_mixed fun P hP _ => ?_
  unfold jetsamref05_Bits at h
  conv => cbv
  refine den_call' hP h (fun _ h => v_jetsamref05_Check h) fun r1 _ h => ?_
  conv => cbv
  refine den_br h (fun _ h => ?_) (fun _ h => ?_)
  · conv => cbv
    cases h
    exact .tup _ _ lp
  conv => cbv
  refine .mk ?_
  conv => cbv
  refine den_own' (ho := True.intro) [(1010, 20000, true)] [] hP h (fun _ h => x_jetsamref01_Put h) fun r2 _ h => ?_
  conv => cbv
  refine .mk ?_
  conv => cbv
  refine den_own' [(1010, 10000, true)] [] hP h (fun _ h => x_jetsamref01_Put_x2 h) fun r3 _ h => ?_
  conv => cbv
  refine den_cut' (r := r) jetsamref05_Bits_K1 (fun j4 => ⟨[(10, .osl 1010)], [(1010, .arr false 3 1 e_i64 j4)], []⟩) ?_ (fun j4 h => ?_)
  · conv => cbv
    refine den_loop' (jetsamref05_Bits_L1 y0 y1 y2) h (fun a5 => ⟨[(1, .int .i64 (.v y1)), (2, .sl 1 e_i64 y2), (3, .ptr 3 0), (8, .int .i64 (.ar .add .i64 (.len y2) (.v y1))), (10, .osl 1010), (12, .int .i64 (.v a5.1)), (13, .int .i64 (.v a5.2.1))], [(3, .var [.int .i64 (.v y0.Method), .int .i64 (.v y0.Order), .sl 1 e_i64 y0.Params, .sl 1 e_i64 y0.Bits]), (1010, .arr false 3 1 e_i64 a5.2.2)], []⟩) (fun _ _ a5 x1 h hb1 hx1 => ?_)
    unfold jetsamref05_Bits_L1 at h
    conv => cbv
    refine den_br h (fun _ h => ?_) (fun _ h => ?_)
    · conv => cbv
      refine den_cut' (r := x1) (jetsamref05_Bits_K2 a5) (fun j6 => ⟨[(1, .int .i64 (.v y1)), (2, .sl 1 e_i64 y2), (3, .ptr 3 0), (8, .int .i64 (.ar .add .i64 (.len y2) (.v y1))), (10, .osl 1010), (12, .int .i64 (.v j6.1)), (13, .int .i64 (.v a5.2.1))], [(3, .var [.int .i64 (.v y0.Method), .int .i64 (.v y0.Order), .sl 1 e_i64 y0.Params, .sl 1 e_i64 y0.Bits]), (1010, .arr false 3 1 e_i64 j6.2)], []⟩) ?_ (fun j6 h => ?_)
      · conv => cbv
        refine den_cut' (r := x1) (jetsamref05_Bits_K3 y0 y1 y2 a5) (fun j7 => ⟨[(1, .int .i64 (.v y1)), (2, .sl 1 e_i64 y2), (3, .ptr 3 0), (8, .int .i64 (.ar .add .i64 (.len y2) (.v y1))), (10, .osl 1010), (12, .int .i64 (.v a5.1)), (13, .int .i64 (.v a5.2.1))], [(3, .var [.int .i64 (.v y0.Method), .int .i64 (.v y0.Order), .sl 1 e_i64 y0.Params, .sl 1 e_i64 y0.Bits]), (1010, .arr false 3 1 e_i64 j7)], []⟩) ?_ (fun j7 h => ?_)
        · conv => cbv
          refine .mk ?_
          conv => cbv
          refine den_elem h fun p15 _ h => ?_
          conv => cbv
          refine den_br h (fun _ h => ?_) (fun _ h => ?_)
          · conv => cbv
            refine den_chk h fun h => ?_
            conv => cbv
            refine .mk ?_
            conv => cbv
            obtain ⟨t16, ht16, h⟩ := den_let h
            obtain ⟨t17, ht17, h⟩ := den_let h
            refine den_own' [(1010, 10000, true)] [] hP h (fun _ h => x_jetsamref01_Put_x2 h) fun r18 _ h => ?_
            conv => cbv
            refine den_elem h fun p19 _ h => ?_
            conv => cbv
            refine .mk ?_
            conv => cbv
            refine den_own' [(1010, 10000, true)] [] hP h (fun _ h => x_jetsamref01_Put_x2 h) fun r20 _ h => ?_
            conv => cbv
            exact den_join' h
          conv => cbv
          refine .mk ?_
          conv => cbv
          refine den_elem h fun p21 _ h => ?_
          conv => cbv
          refine .mk ?_
          conv => cbv
          obtain ⟨t22, ht22, h⟩ := den_let h
          refine den_own' [(1010, 10000, true)] [] hP h (fun _ h => x_jetsamref01_Put_x2 h) fun r23 _ h => ?_
          conv => cbv
          exact den_join' h
        unfold jetsamref05_Bits_K3 at h
        conv => cbv
        refine den_loop' (jetsamref05_Bits_L2 y0 y1 y2 a5) h (fun a8 => ⟨[(1, .int .i64 (.v y1)), (2, .sl 1 e_i64 y2), (3, .ptr 3 0), (8, .int .i64 (.ar .add .i64 (.len y2) (.v y1))), (10, .osl 1010), (12, .int .i64 (.v a8.1)), (13, .int .i64 (.v a5.2.1))], [(3, .var [.int .i64 (.v y0.Method), .int .i64 (.v y0.Order), .sl 1 e_i64 y0.Params, .sl 1 e_i64 y0.Bits]), (1010, .arr false 3 1 e_i64 a8.2)], []⟩) (fun _ _ a8 x2 h hb2 hx2 => ?_)
        unfold jetsamref05_Bits_L2 at h
        conv => cbv
        refine .mk ?_
        conv => cbv
        refine .mk ?_
        conv => cbv
        refine den_br h (fun _ h => ?_) (fun _ h => ?_)
        · conv => cbv
          refine den_call' hP h (fun _ h => v_jetsamref05_part h) fun r9 _ h => ?_
          conv => cbv
          refine den_br h (fun _ h => ?_) (fun _ h => ?_)
          · conv => cbv
            refine .dup ?_
            conv => cbv
            refine .mk (some []) (by kernel_rfl) ?_
            conv => cbv
            refine den_elem h fun p10 _ h => ?_
            conv => cbv
            refine .mk ?_
            conv => cbv
            refine den_elem h fun p11 _ h => ?_
            conv => cbv
            refine .mk ?_
            conv => cbv
            refine den_elem h fun p12 _ h => ?_
            conv => cbv
            refine den_call' hP h (fun _ h => v_jetsamref05_one h) fun r13 _ h => ?_
            conv => cbv
            refine .mk ?_
            conv => cbv
            refine den_br h (fun _ h => ?_) (fun _ h => ?_)
            · conv => cbv
              replace h := den_out h hx2
              replace h := den_out h hx1
              cases h
              exact .tup _ _ lp
            conv => cbv
            refine den_app_own e_i64 (xs := r13.1) h rfl (News.map rfl) fun l14 _ h => ?_
            conv => cbv
            exact den_back' h hb2
          conv => cbv
          replace h := den_out h hx2
          exact den_join' h
        conv => cbv
        replace h := den_out h hx2
        exact den_join' h
      unfold jetsamref05_Bits_K2 at h
      conv => cbv
      exact den_back' h hb1
    conv => cbv
    replace h := den_out h hx1
    exact den_join' h
  unfold jetsamref05_Bits_K1 at h
  conv => cbv
  cases h
  exact .tup _ _ lp
def T_jetsamref07_Bits : Tab := [(3, ⟨.int .i64, 1, 8, [.int .i64 (.lit 0)]⟩), (30, ⟨.slice 3, 1, 24, [.nilsl]⟩), (42, ⟨.struct [(0, 3), (1, 3), (2, 30)], 3, 40, [.int .i64 (.lit 0), .int .i64 (.lit 0), .nilsl]⟩), (43, ⟨.struct [(0, 3), (1, 3), (2, 30), (3, 30)], 4, 64, [.int .i64 (.lit 0), .int .i64 (.lit 0), .nilsl, .nilsl]⟩), (45, ⟨.struct [(0, 3), (1, 3), (2, 3), (3, 42), (6, 43)], 10, 128, [.int .i64 (.lit 0), .int .i64 (.lit 0), .int .i64 (.lit 0), .int .i64 (.lit 0), .int .i64 (.lit 0), .nilsl, .int .i64 (.lit 0), .int .i64 (.lit 0), .nilsl, .nilsl]⟩)]
theorem T_jetsamref07_Bits_ok : TabOk Tryz.prog T_jetsamref07_Bits := tab_ok [3, 30, 42, 43, 45]
set_option maxHeartbeats 2000000 in
theorem v_jetsamref07_Bits {y0 : jetsamref07_Plan} {y1 : Int} {y2 : List Int} {r : (List Int) × Int} (h : jetsamref07_Bits y0 y1 y2 = some r) : AVal Tryz.prog Gl 10 [e_jetsamref07_Plan y0, e_i64 y1, (e_sl 1 e_i64) y2] (.tup [(e_sl 1 e_i64) r.1, e_i64 r.2]) := by
  refine aval_of' T_jetsamref07_Bits Gl 226 Tryz.func10 T_jetsamref07_Bits_ok Tryz_mixed fun P hP _ => ?_
  unfold jetsamref07_Bits at h
  conv => cbv
  refine .mk ?_
  conv => cbv
  refine .mk ?_
  conv => cbv
  refine den_br h (fun _ h => ?_) (fun _ h => ?_)
  · conv => cbv
    cases h
    exact .tup _ _ lp
  conv => cbv
  refine den_call' hP h (fun _ h => v_jetsamref07_shape h) fun r1 _ h => ?_
  conv => cbv
  refine den_br h (fun _ h => ?_) (fun _ h => ?_)
  · conv => cbv
    cases h
    exact .tup _ _ lp
  conv => cbv
  refine .mk ?_
  conv => cbv
  refine den_call' hP h (fun _ h => v_jetsamref07_Less h) fun r2 _ h => ?_
  conv => cbv
  refine .mk ?_
  conv => cbv
  refine den_call' hP h (fun _ h => v_jetsamref07_Fits h) fun r3 _ h => ?_
  conv => cbv
  refine den_br h (fun _ h => ?_) (fun _ h => ?_)
  · conv => cbv
    cases h
    exact .tup _ _ lp
  conv => cbv
  refine den_cut' (r := r) (jetsamref07_Bits_K1 y0 y1 r2) (fun j4 => ⟨[(3, .ptr 3 0), (9, .sl 1 e_i64 r2.1), (11, .int .i64 (.ar .sub .i64 (.v y1) (.v y0.Wasted))), (12, .int .i64 (.v j4))], [(3, .var [.int .i64 (.v y0.Kind), .int .i64 (.v y0.Order), .int .i64 (.v y0.Wasted), .int .i64 (.v y0.Linear.Precision), .int .i64 (.v y0.Linear.Shift), .sl 1 e_i64 y0.Linear.Coefs, .int .i64 (.v y0.Rice.Method), .int .i64 (.v y0.Rice.Order), .sl 1 e_i64 y0.Rice.Params, .sl 1 e_i64 y0.Rice.Bits])], []⟩) ?_ (fun j4 h => ?_)
  · conv => cbv
    refine den_br h (fun _ h => ?_) (fun _ h => ?_)
    · conv => cbv
      exact den_join' h
    conv => cbv
    exact den_join' h
  unfold jetsamref07_Bits_K1 at h
  conv => cbv
  refine den_cut' (r := r) (jetsamref07_Bits_K2 y0 y1 r2) (fun j5 => ⟨[(3, .ptr 3 0), (9, .sl 1 e_i64 r2.1), (11, .int .i64 (.ar .sub .i64 (.v y1) (.v y0.Wasted))), (12, .int .i64 (.v j5))], [(3, .var [.int .i64 (.v y0.Kind), .int .i64 (.v y0.Order), .int .i64 (.v y0.Wasted), .int .i64 (.v y0.Linear.Precision), .int .i64 (.v y0.Linear.Shift), .sl 1 e_i64 y0.Linear.Coefs, .int .i64 (.v y0.Rice.Method), .int .i64 (.v y0.Rice.Order), .sl 1 e_i64 y0.Rice.Params, .sl 1 e_i64 y0.Rice.Bits])], []⟩) ?_ (fun j5 h => ?_)
  · conv => cbv
    refine den_br h (fun _ h => ?_) (fun _ h => ?_)
    · conv => cbv
      exact den_join' h
    conv => cbv
    exact den_join' h
  unfold jetsamref07_Bits_K2 at h
  conv => cbv
  refine .mk ?_
  conv => cbv
  refine den_own' (ho := True.intro) [(1013, 20000, true)] [] hP h (fun _ h => x_jetsamref01_Put h) fun r6 _ h => ?_
  conv => cbv
  refine den_cut' (r := r) (jetsamref07_Bits_K3 y0 y1 r2) (fun j7 => ⟨[(3, .ptr 3 0), (9, .sl 1 e_i64 r2.1), (11, .int .i64 (.ar .sub .i64 (.v y1) (.v y0.Wasted))), (13, .osl 1013)], [(3, .var [.int .i64 (.v y0.Kind), .int .i64 (.v y0.Order), .int .i64 (.v y0.Wasted), .int .i64 (.v y0.Linear.Precision), .int .i64 (.v y0.Linear.Shift), .sl 1 e_i64 y0.Linear.Coefs, .int .i64 (.v y0.Rice.Method), .int .i64 (.v y0.Rice.Order), .sl 1 e_i64 y0.Rice.Params, .sl 1 e_i64 y0.Rice.Bits]), (1013, .arr false 3 1 e_i64 j7)], []⟩) ?_ (fun j7 h => ?_)
  · conv => cbv
    refine den_br h (fun _ h => ?_) (fun _ h => ?_)
    · conv => cbv
      refine .data ?_
      conv => cbv
      refine den_app_own e_i64 (xs := [(0 : Int)]) h rfl lp fun l34 _ h => ?_
      conv => cbv
      exact den_join' h
    conv => cbv
    refine .data ?_
    conv => cbv
    refine den_app_own e_i64 (xs := [(1 : Int)]) h rfl lp fun l35 _ h => ?_
    conv => cbv
    refine .mk ?_
    conv => cbv
    obtain ⟨t36, ht36, h⟩ := den_let h
    refine den_own' [(1013, 10000, true)] [] hP h (fun _ h => x_jetsamref01_Unary h) fun r37 _ h => ?_
    conv => cbv
    exact den_join' h
  unfold jetsamref07_Bits_K3 at h
  conv => cbv
  refine den_cut' (r := r) (jetsamref07_Bits_K4 y0 y1 r2 j7) (fun j8 => ⟨[(3, .ptr 3 0), (9, .sl 1 e_i64 r2.1), (11, .int .i64 (.ar .sub .i64 (.v y1) (.v y0.Wasted))), (13, .osl 1013), (15, .int .i64 (.v j8))], [(3, .var [.int .i64 (.v y0.Kind), .int .i64 (.v y0.Order), .int .i64 (.v y0.Wasted), .int .i64 (.v y0.Linear.Precision), .int .i64 (.v y0.Linear.Shift), .sl 1 e_i64 y0.Linear.Coefs, .int .i64 (.v y0.Rice.Method), .int .i64 (.v y0.Rice.Order), .sl 1 e_i64 y0.Rice.Params, .sl 1 e_i64 y0.Rice.Bits]), (1013, .arr false 3 1 e_i64 j7)], []⟩) ?_ (fun j8 h => ?_)
  · conv => cbv
    refine den_br h (fun _ h => ?_) (fun _ h => ?_)
    · conv => cbv
      refine den_loop' (jetsamref07_Bits_L3 y0 y1 r2 j7) h (fun a31 => ⟨[(3, .ptr 3 0), (9, .sl 1 e_i64 r2.1), (11, .int .i64 (.ar .sub .i64 (.v y1) (.v y0.Wasted))), (13, .osl 1013), (15, .int .i64 (.lit 1)), (16, .int .i64 (.v a31))], [(3, .var [.int .i64 (.v y0.Kind), .int .i64 (.v y0.Order), .int .i64 (.v y0.Wasted), .int .i64 (.v y0.Linear.Precision), .int .i64 (.v y0.Linear.Shift), .sl 1 e_i64 y0.Linear.Coefs, .int .i64 (.v y0.Rice.Method), .int .i64 (.v y0.Rice.Order), .sl 1 e_i64 y0.Rice.Params, .sl 1 e_i64 y0.Rice.Bits]), (1013, .arr false 3 1 e_i64 j7)], []⟩) (fun _ _ a31 x1 h hb1 hx1 => ?_)
      unfold jetsamref07_Bits_L3 at h
      conv => cbv
      refine den_br h (fun _ h => ?_) (fun _ h => ?_)
      · conv => cbv
        refine .dup ?_
        conv => cbv
        refine .mk (some []) (by kernel_rfl) ?_
        conv => cbv
        refine den_elem h fun p32 _ h => ?_
        conv => cbv
        refine .mk ?_
        conv => cbv
        refine den_elem h fun p33 _ h => ?_
        conv => cbv
        refine den_br h (fun _ h => ?_) (fun _ h => ?_)
        · conv => cbv
          replace h := den_out h hx1
          cases h
          exact .tup _ _ lp
        conv => cbv
        exact den_back' h hb1
      conv => cbv
      replace h := den_out h hx1
      exact den_join' h
    conv => cbv
    exact den_join' h
  unfold jetsamref07_Bits_K4 at h
  conv => cbv
  refine den_cut' (r := r) (jetsamref07_Bits_K5 y0 y1 r2 j7) (fun j9 => ⟨[(3, .ptr 3 0), (9, .sl 1 e_i64 r2.1), (11, .int .i64 (.ar .sub .i64 (.v y1) (.v y0.Wasted))), (13, .osl 1013), (15, .int .i64 (.v j9))], [(3, .var [.int .i64 (.v y0.Kind), .int .i64 (.v y0.Order), .int .i64 (.v y0.Wasted), .int .i64 (.v y0.Linear.Precision), .int .i64 (.v y0.Linear.Shift), .sl 1 e_i64 y0.Linear.Coefs, .int .i64 (.v y0.Rice.Method), .int .i64 (.v y0.Rice.Order), .sl 1 e_i64 y0.Rice.Params, .sl 1 e_i64 y0.Rice.Bits]), (1013, .arr false 3 1 e_i64 j7)], []⟩) ?_ (fun j9 h => ?_)
  · conv => cbv
    refine den_br h (fun _ h => ?_) (fun _ h => ?_)
    · conv => cbv
      exact den_join' h
    conv => cbv
    exact den_join' h
  unfold jetsamref07_Bits_K5 at h
  conv => cbv
  refine den_cut' (r := r) (jetsamref07_Bits_K6 y0 y1 r2 j7 j9) (fun j10 => ⟨[(3, .ptr 3 0), (9, .sl 1 e_i64 r2.1), (11, .int .i64 (.ar .sub .i64 (.v y1) (.v y0.Wasted))), (13, .osl 1013), (15, .int .i64 (.v j9)), (17, .ptr 17 0)], [(3, .var [.int .i64 (.v y0.Kind), .int .i64 (.v y0.Order), .int .i64 (.v y0.Wasted), .int .i64 (.v y0.Linear.Precision), .int .i64 (.v y0.Linear.Shift), .sl 1 e_i64 y0.Linear.Coefs, .int .i64 (.v y0.Rice.Method), .int .i64 (.v y0.Rice.Order), .sl 1 e_i64 y0.Rice.Params, .sl 1 e_i64 y0.Rice.Bits]), (17, .var [.int .i64 (.v j10.1), .int .i64 (.v j10.2.1), .sl 1 e_i64 j10.2.2]), (1013, .arr false 3 1 e_i64 j7)], []⟩) ?_ (fun j10 h => ?_)
  · conv => cbv
    refine den_br h (fun _ h => ?_) (fun _ h => ?_)
    · conv => cbv
      refine den_call' hP h (fun _ h => v_jetsamref07_Coefs h) fun r30 _ h => ?_
      conv => cbv
      exact den_join' h
    conv => cbv
    exact den_join' h
  unfold jetsamref07_Bits_K6 at h
  conv => cbv
  refine den_cut' (r := r) (jetsamref07_Bits_K7 y0 y1 r2 j7 j9 j10) (fun j11 => ⟨[(3, .ptr 3 0), (9, .sl 1 e_i64 r2.1), (11, .int .i64 (.ar .sub .i64 (.v y1) (.v y0.Wasted))), (13, .osl 1013), (15, .int .i64 (.v j9)), (17, .ptr 17 0)], [(3, .var [.int .i64 (.v y0.Kind), .int .i64 (.v y0.Order), .int .i64 (.v y0.Wasted), .int .i64 (.v y0.Linear.Precision), .int .i64 (.v y0.Linear.Shift), .sl 1 e_i64 y0.Linear.Coefs, .int .i64 (.v y0.Rice.Method), .int .i64 (.v y0.Rice.Order), .sl 1 e_i64 y0.Rice.Params, .sl 1 e_i64 y0.Rice.Bits]), (17, .var [.int .i64 (.v j10.1), .int .i64 (.v j10.2.1), .sl 1 e_i64 j10.2.2]), (1013, .arr false 3 1 e_i64 j7)], []⟩) ?_ (fun j11 h => ?_)
  · conv => cbv
    refine den_br h (fun _ h => ?_) (fun _ h => ?_)
    · conv => cbv
      refine den_call' hP h (fun _ h => v_jetsamref06_Check h) fun r27 _ h => ?_
      conv => cbv
      refine den_cut' (r := r) (jetsamref07_Bits_K10 y0 y1 r2 j7 j9 j10) (fun j28 => ⟨[(3, .ptr 3 0), (8, .int .i64 (.v j28)), (9, .sl 1 e_i64 r2.1), (11, .int .i64 (.ar .sub .i64 (.v y1) (.v y0.Wasted))), (13, .osl 1013), (15, .int .i64 (.v j9)), (17, .ptr 17 0)], [(3, .var [.int .i64 (.v y0.Kind), .int .i64 (.v y0.Order), .int .i64 (.v y0.Wasted), .int .i64 (.v y0.Linear.Precision), .int .i64 (.v y0.Linear.Shift), .sl 1 e_i64 y0.Linear.Coefs, .int .i64 (.v y0.Rice.Method), .int .i64 (.v y0.Rice.Order), .sl 1 e_i64 y0.Rice.Params, .sl 1 e_i64 y0.Rice.Bits]), (17, .var [.int .i64 (.v j10.1), .int .i64 (.v j10.2.1), .sl 1 e_i64 j10.2.2]), (1013, .arr false 3 1 e_i64 j7)], []⟩) ?_ (fun j28 h => ?_)
      · conv => cbv
        refine den_br h (fun _ h => ?_) (fun _ h => ?_)
        · conv => cbv
          refine .mk ?_
          conv => cbv
          refine den_call' hP h (fun _ h => v_jetsamref05_Check h) fun r29 _ h => ?_
          conv => cbv
          exact den_join' h
        conv => cbv
        exact den_join' h
      unfold jetsamref07_Bits_K10 at h
      conv => cbv
      refine den_br h (fun _ h => ?_) (fun _ h => ?_)
      · conv => cbv
        cases h
        exact .tup _ _ lp
      conv => cbv
      exact den_join' h
    conv => cbv
    exact den_join' h
  unfold jetsamref07_Bits_K7 at h
  conv => cbv
  refine den_cut' (r := r) (jetsamref07_Bits_K8 y0 r2 j10) (fun j12 => ⟨[(3, .ptr 3 0), (9, .sl 1 e_i64 r2.1), (13, .osl 1013), (17, .ptr 17 0)], [(3, .var [.int .i64 (.v y0.Kind), .int .i64 (.v y0.Order), .int .i64 (.v y0.Wasted), .int .i64 (.v y0.Linear.Precision), .int .i64 (.v y0.Linear.Shift), .sl 1 e_i64 y0.Linear.Coefs, .int .i64 (.v y0.Rice.Method), .int .i64 (.v y0.Rice.Order), .sl 1 e_i64 y0.Rice.Params, .sl 1 e_i64 y0.Rice.Bits]), (17, .var [.int .i64 (.v j10.1), .int .i64 (.v j10.2.1), .sl 1 e_i64 j10.2.2]), (1013, .arr false 3 1 e_i64 j12)], []⟩) ?_ (fun j12 h => ?_)
  · conv => cbv
    refine den_loop' (jetsamref07_Bits_L2 y0 y1 r2 j9 j10) h (fun a23 => ⟨[(3, .ptr 3 0), (9, .sl 1 e_i64 r2.1), (11, .int .i64 (.ar .sub .i64 (.v y1) (.v y0.Wasted))), (13, .osl 1013), (15, .int .i64 (.v j9)), (17, .ptr 17 0), (18, .int .i64 (.v a23.1))], [(3, .var [.int .i64 (.v y0.Kind), .int .i64 (.v y0.Order), .int .i64 (.v y0.Wasted), .int .i64 (.v y0.Linear.Precision), .int .i64 (.v y0.Linear.Shift), .sl 1 e_i64 y0.Linear.Coefs, .int .i64 (.v y0.Rice.Method), .int .i64 (.v y0.Rice.Order), .sl 1 e_i64 y0.Rice.Params, .sl 1 e_i64 y0.Rice.Bits]), (17, .var [.int .i64 (.v j10.1), .int .i64 (.v j10.2.1), .sl 1 e_i64 j10.2.2]), (1013, .arr false 3 1 e_i64 a23.2)], []⟩) (fun _ _ a23 x1 h hb1 hx1 => ?_)
    unfold jetsamref07_Bits_L2 at h
    conv => cbv
    refine den_br h (fun _ h => ?_) (fun _ h => ?_)
    · conv => cbv
      refine den_elem h fun p24 _ h => ?_
      conv => cbv
      refine .mk ?_
      conv => cbv
      obtain ⟨t25, ht25, h⟩ := den_let h
      refine den_own' [(1013, 10000, true)] [] hP h (fun _ h => x_jetsamref01_Put_x2 h) fun r26 _ h => ?_
      conv => cbv
      exact den_back' h hb1
    conv => cbv
    replace h := den_out h hx1
    exact den_join' h
  unfold jetsamref07_Bits_K8 at h
  conv => cbv
  refine den_br h (fun _ h => ?_) (fun _ h => ?_)
  · conv => cbv
    cases h
    exact .tup _ _ lp
  conv => cbv
  refine den_cut' (r := r) (jetsamref07_Bits_K9 y0 r2 j10) (fun j13 => ⟨[(3, .ptr 3 0), (9, .sl 1 e_i64 r2.1), (13, .osl 1013), (17, .ptr 17 0)], [(3, .var [.int .i64 (.v y0.Kind), .int .i64 (.v y0.Order), .int .i64 (.v y0.Wasted), .int .i64 (.v y0.Linear.Precision), .int .i64 (.v y0.Linear.Shift), .sl 1 e_i64 y0.Linear.Coefs, .int .i64 (.v y0.Rice.Method), .int .i64 (.v y0.Rice.Order), .sl 1 e_i64 y0.Rice.Params, .sl 1 e_i64 y0.Rice.Bits]), (17, .var [.int .i64 (.v j10.1), .int .i64 (.v j10.2.1), .sl 1 e_i64 j10.2.2]), (1013, .arr false 3 1 e_i64 j13)], []⟩) ?_ (fun j13 h => ?_)
  · conv => cbv
    refine den_br h (fun _ h => ?_) (fun _ h => ?_)
    · conv => cbv
      refine .mk ?_
      conv => cbv
      obtain ⟨t17, ht17, h⟩ := den_let h
      refine den_own' [(1013, 10000, true)] [] hP h (fun _ h => x_jetsamref01_Put_x2 h) fun r18 _ h => ?_
      conv => cbv
      refine .mk ?_
      conv => cbv
      refine den_own' [(1013, 10000, true)] [] hP h (fun _ h => x_jetsamref01_Put_x2 h) fun r19 _ h => ?_
      conv => cbv
      refine den_loop' (jetsamref07_Bits_L1 y0 r2 j10) h (fun a20 => ⟨[(3, .ptr 3 0), (9, .sl 1 e_i64 r2.1), (13, .osl 1013), (17, .ptr 17 0), (19, .int .i64 (.v a20.1))], [(3, .var [.int .i64 (.v y0.Kind), .int .i64 (.v y0.Order), .int .i64 (.v y0.Wasted), .int .i64 (.v y0.Linear.Precision), .int .i64 (.v y0.Linear.Shift), .sl 1 e_i64 y0.Linear.Coefs, .int .i64 (.v y0.Rice.Method), .int .i64 (.v y0.Rice.Order), .sl 1 e_i64 y0.Rice.Params, .sl 1 e_i64 y0.Rice.Bits]), (17, .var [.int .i64 (.v j10.1), .int .i64 (.v j10.2.1), .sl 1 e_i64 j10.2.2]), (1013, .arr false 3 1 e_i64 a20.2)], []⟩) (fun _ _ a20 x1 h hb1 hx1 => ?_)
      unfold jetsamref07_Bits_L1 at h
      conv => cbv
      refine den_br h (fun _ h => ?_) (fun _ h => ?_)
      · conv => cbv
        refine .mk (some [1013]) (by kernel_rfl) ?_
        conv => cbv
        refine .mk ?_
        conv => cbv
        refine den_elem h fun p21 _ h => ?_
        conv => cbv
        refine den_own' [(1013, 10000, true)] [] hP h (fun _ h => x_jetsamref01_Put_x2 h) fun r22 _ h => ?_
        conv => cbv
        refine .mk ?_
        conv => cbv
        exact den_back' h hb1
      conv => cbv
      replace h := den_out h hx1
      exact den_join' h
    conv => cbv
    exact den_join' h
  unfold jetsamref07_Bits_K9 at h
  conv => cbv
  refine .mk ?_
  conv => cbv
  refine den_call' hP h (fun _ h => v_jetsamref06_Residual h) fun r14 _ h => ?_
  conv => cbv
  refine .mk ?_
  conv => cbv
  refine den_call' hP h (fun _ h => v_jetsamref05_Bits h) fun r15 _ h => ?_
  conv => cbv
  refine den_br h (fun _ h => ?_) (fun _ h => ?_)
  · conv => cbv
    cases h
    exact .tup _ _ lp
  conv => cbv
  refine den_app_own e_i64 (xs := r15.1) h rfl (News.map rfl) fun l16 _ h => ?_
  conv => cbv
  cases h
  exact .tup _ _ lp
def T_jetsamlaw01_Ints : Tab := [(3, ⟨.int .i64, 1, 8, [.int .i64 (.lit 0)]⟩), (30, ⟨.slice 3, 1, 24, [.nilsl]⟩)]
theorem T_jetsamlaw01_Ints_ok : TabOk Tryz.prog T_jetsamlaw01_Ints := tab_ok [3, 30]
theorem v_jetsamlaw01_Ints {y0 : List Int} {y1 : List Int} {r : Bool} (h : jetsamlaw01_Ints y0 y1 = some r) : AVal Tryz.prog Gl 12 [(e_sl 1 e_i64) y0, (e_sl 1 e_i64) y1] (e_bool r) := by
  refine aval_of' T_jetsamlaw01_Ints Gl 26 Tryz.func12 T_jetsamlaw01_Ints_ok Tryz_mixed fun P hP _ => ?_
  unfold jetsamlaw01_Ints at h
  conv => cbv
  refine den_br h (fun _ h => ?_) (fun _ h => ?_)
  · conv => cbv
    cases h
    exact lp
  conv => cbv
  refine den_cut' (r := r) jetsamlaw01_Ints_K1 (fun j1 => ⟨[], [], []⟩) ?_ (fun j1 h => ?_)
  · conv => cbv
    refine den_loop' (jetsamlaw01_Ints_L1 y0 y1) h (fun a2 => ⟨[(0, .sl 1 e_i64 y0), (1, .sl 1 e_i64 y1), (5, .int .i64 (.v a2))], [], []⟩) (fun _ _ a2 x1 h hb1 hx1 => ?_)
    unfold jetsamlaw01_Ints_L1 at h
    conv => cbv
    refine den_br h (fun _ h => ?_) (fun _ h => ?_)
    · conv => cbv
      refine .dup ?_
      conv => cbv
      refine .mk (some []) (by kernel_rfl) ?_
      conv => cbv
      refine den_elem h fun p3 _ h => ?_
      conv => cbv
      refine .mk ?_
      conv => cbv
      refine den_elem h fun p4 _ h => ?_
      conv => cbv
      refine den_br h (fun _ h => ?_) (fun _ h => ?_)
      · conv => cbv
        replace h := den_out h hx1
        cases h
        exact lp
      conv => cbv
      exact den_back' h hb1
    conv => cbv
    replace h := den_out h hx1
    exact den_join' h
  unfold jetsamlaw01_Ints_K1 at h
  conv => cbv
  cases h
  exact lp
def T_jetsamlaw07_SubframeReads : Tab := [(3, ⟨.int .i64, 1, 8, [.int .i64 (.lit 0)]⟩), (22, ⟨.slice 5, 1, 24, [.nilsl]⟩), (23, ⟨.arr 2 3, 2, 16, [.int .i64 (.lit 0), .int .i64 (.lit 0)]⟩), (25, ⟨.ptr 60, 1, 8, [.nilptr]⟩), (30, ⟨.slice 3, 1, 24, [.nilsl]⟩), (36, ⟨.struct [(0, 3), (1, 3), (2, 3), (3, 32), (6, 34)], 10, 128, [.int .i64 (.lit 0), .int .i64 (.lit 0), .int .i64 (.lit 0), .int .i64 (.lit 0), .int .i64 (.lit 0), .nilsl, .int .i64 (.lit 0), .int .i64 (.lit 0), .nilsl, .nilsl]⟩)]
theorem T_jetsamlaw07_SubframeReads_ok : TabOk Tryz.prog T_jetsamlaw07_SubframeReads := tab_ok [3, 22, 23, 25, 30, 36]
set_option maxHeartbeats 2000000 in
theorem v_jetsamlaw07_SubframeReads {y0 : List Int} {y1 : Int} {y2 : Arr2 Int} {r : Bool} (h : jetsamlaw07_SubframeReads y0 y1 y2 = some r) : AVal Tryz.prog Gl 3 [(e_sl 1 e_u8) y0, e_i64 y1, (e_arr2 e_i64) y2] (e_bool r) := by
  refine aval_of' T_jetsamlaw07_SubframeReads Gl 160 Tryz.func3 T_jetsamlaw07_SubframeReads_ok Tryz_mixed fun P hP _ => ?_
  unfold jetsamlaw07_SubframeReads at h
  conv => cbv
  refine .mk ?_
  conv => cbv
  refine den_br h (fun _ h => ?_) (fun _ h => ?_)
  · conv => cbv
    refine .mk ?_
    conv => cbv
    refine den_call' hP h (fun _ h => v_jetsamlaw07_awake h) fun r1 _ h => ?_
    conv => cbv
    cases h
    exact lp
  conv => cbv
  refine .mk ?_
  conv => cbv
  refine den_br h (fun _ h => ?_) (fun _ h => ?_)
  · conv => cbv
    refine den_br h (fun _ h => ?_) (fun _ h => ?_)
    · conv => cbv
      refine den_call' hP h (fun _ h => v_jetsamlaw07_awake h) fun r2 _ h => ?_
      conv => cbv
      cases h
      exact lp
    conv => cbv
    refine den_own' (ho := True.intro) [(30, 20000, true)] [] hP h (fun _ h => x_bits_NewReader h) fun r3 _ h => ?_
    conv => cbv
    refine den_own' [(30, 10000, false)] [] hP h (fun _ h => x_bits_Reader_Seek h) fun r4 _ h => ?_
    conv => cbv
    refine den_own' [(30, 10000, false)] [] hP h (fun _ h => x_bits_Reader_At h) fun r5 _ h => ?_
    conv => cbv
    refine .mk ?_
    conv => cbv
    refine den_own' [(30, 10000, false)] [] hP h (fun _ h => x_subframe_Read h) fun r6 _ h => ?_
    conv => cbv
    refine .mk ?_
    conv => cbv
    refine .mk ?_
    conv => cbv
    refine den_br h (fun _ h => ?_) (fun _ h => ?_)
    · conv => cbv
      refine .mk ?_
      conv => cbv
      refine .mk ?_
      conv => cbv
      refine .mk ?_
      conv => cbv
      refine den_br h (fun _ h => ?_) (fun _ h => ?_)
      · conv => cbv
        refine den_own' [(30, 10000, false)] [] hP h (fun _ h => x_bits_Reader_At h) fun r7 _ h => ?_
        conv => cbv
        refine .mk ?_
        conv => cbv
        refine den_br h (fun _ h => ?_) (fun _ h => ?_)
        · conv => cbv
          refine den_call' hP h (fun _ h => v_jetsamlaw07_awake h) fun r8 _ h => ?_
          conv => cbv
          cases h
          exact lp
        conv => cbv
        cases h
        exact lp
      conv => cbv
      refine .mk ?_
      conv => cbv
      cases h
      exact lp
    conv => cbv
    refine .mk ?_
    conv => cbv
    refine den_br h (fun _ h => ?_) (fun _ h => ?_)
    · conv => cbv
      refine .mk ?_
      conv => cbv
      refine .mk ?_
      conv => cbv
      refine den_br h (fun _ h => ?_) (fun _ h => ?_)
      · conv => cbv
        refine den_own' [(30, 10000, false)] [] hP h (fun _ h => x_bits_Reader_At h) fun r9 _ h => ?_
        conv => cbv
        refine .mk ?_
        conv => cbv
        refine den_br h (fun _ h => ?_) (fun _ h => ?_)
        · conv => cbv
          refine den_call' hP h (fun _ h => v_jetsamlaw07_awake h) fun r10 _ h => ?_
          conv => cbv
          cases h
          exact lp
        conv => cbv
        cases h
        exact lp
      conv => cbv
      refine .mk ?_
      conv => cbv
      cases h
      exact lp
    conv => cbv
    refine .mk ?_
    conv => cbv
    refine den_br h (fun _ h => ?_) (fun _ h => ?_)
    · conv => cbv
      refine .mk ?_
      conv => cbv
      refine den_br h (fun _ h => ?_) (fun _ h => ?_)
      · conv => cbv
        refine den_own' [(30, 10000, false)] [] hP h (fun _ h => x_bits_Reader_At h) fun r11 _ h => ?_
        conv => cbv
        refine .mk ?_
        conv => cbv
        refine den_br h (fun _ h => ?_) (fun _ h => ?_)
        · conv => cbv
          refine den_call' hP h (fun _ h => v_jetsamlaw07_awake h) fun r12 _ h => ?_
          conv => cbv
          cases h
          exact lp
        conv => cbv
        cases h
        exact lp
      conv => cbv
      refine .mk ?_
      conv => cbv
      cases h
      exact lp
    conv => cbv
    refine den_br h (fun _ h => ?_) (fun _ h => ?_)
    · conv => cbv
      refine .mk ?_
      conv => cbv
      refine den_br h (fun _ h => ?_) (fun _ h => ?_)
      · conv => cbv
        refine den_own' [(30, 10000, false)] [] hP h (fun _ h => x_bits_Reader_At h) fun r13 _ h => ?_
        conv => cbv
        refine .mk ?_
        conv => cbv
        refine den_br h (fun _ h => ?_) (fun _ h => ?_)
        · conv => cbv
          refine den_call' hP h (fun _ h => v_jetsamlaw07_awake h) fun r14 _ h => ?_
          conv => cbv
          cases h
          exact lp
        conv => cbv
        cases h
        exact lp
      conv => cbv
      refine .mk ?_
      conv => cbv
      cases h
      exact lp
    conv => cbv
    refine den_br h (fun _ h => ?_) (fun _ h => ?_)
    · conv => cbv
      refine .mk ?_
      conv => cbv
      refine .mk ?_
      conv => cbv
      refine .mk ?_
      conv => cbv
      refine den_br h (fun _ h => ?_) (fun _ h => ?_)
      · conv => cbv
        refine den_own' [(30, 10000, false)] [] hP h (fun _ h => x_bits_Reader_At h) fun r15 _ h => ?_
        conv => cbv
        refine .mk ?_
        conv => cbv
        refine den_br h (fun _ h => ?_) (fun _ h => ?_)
        · conv => cbv
          refine den_call' hP h (fun _ h => v_jetsamlaw07_awake h) fun r16 _ h => ?_
          conv => cbv
          cases h
          exact lp
        conv => cbv
        cases h
        exact lp
      conv => cbv
      refine .mk ?_
      conv => cbv
      cases h
      exact lp
    conv => cbv
    refine den_call' hP h (fun _ h => v_jetsamref01_Bits h) fun r17 _ h => ?_
    conv => cbv
    refine .dup ?_
    conv => cbv
    refine .mk (some []) (by kernel_rfl) ?_
    conv => cbv
    refine den_call' hP h (fun _ h => v_jetsamlaw07_Plain h) fun r18 _ h => ?_
    conv => cbv
    refine .mk ?_
    conv => cbv
    refine den_call' hP h (fun _ h => v_jetsamref07_Bits h) fun r19 _ h => ?_
    conv => cbv
    refine .mk ?_
    conv => cbv
    refine den_br h (fun _ h => ?_) (fun _ h => ?_)
    · conv => cbv
      refine .mk ?_
      conv => cbv
      refine .mk ?_
      conv => cbv
      refine den_br h (fun _ h => ?_) (fun _ h => ?_)
      · conv => cbv
        refine den_own' [(30, 10000, false)] [] hP h (fun _ h => x_bits_Reader_At h) fun r20 _ h => ?_
        conv => cbv
        refine .mk ?_
        conv => cbv
        refine den_br h (fun _ h => ?_) (fun _ h => ?_)
        · conv => cbv
          refine den_own' [(30, 10000, false)] [] hP h (fun _ h => x_bits_Reader_At h) fun r21 _ h => ?_
          conv => cbv
          refine .mk ?_
          conv => cbv
          refine den_br h (fun _ h => ?_) (fun _ h => ?_)
          · conv => cbv
            refine den_own' [(30, 10000, false)] [] hP h (fun _ h => x_bits_Reader_At h) fun r22 _ h => ?_
            conv => cbv
            refine den_sub h fun l23 _ h => ?_
            conv => cbv
            refine .mk ?_
            conv => cbv
            refine den_call' hP h (fun _ h => v_jetsamlaw01_Ints h) fun r24 _ h => ?_
            conv => cbv
            refine den_br h (fun _ h => ?_) (fun _ h => ?_)
            · conv => cbv
              refine den_call' hP h (fun _ h => v_jetsamlaw07_awake h) fun r25 _ h => ?_
              conv => cbv
              cases h
              exact lp
            conv => cbv
            cases h
            exact lp
          conv => cbv
          refine .mk ?_
          conv => cbv
          cases h
          exact lp
        conv => cbv
        refine .mk ?_
        conv => cbv
        refine .mk ?_
        conv => cbv
        cases h
        exact lp
      conv => cbv
      refine .mk ?_
      conv => cbv
      refine .mk ?_
      conv => cbv
      refine .mk ?_
      conv => cbv
      cases h
      exact lp
    conv => cbv
    refine .mk ?_
    conv => cbv
    refine .mk ?_
    conv => cbv
    refine .mk ?_
    conv => cbv
    refine .mk ?_
    conv => cbv
    refine .mk ?_
    conv => cbv
    cases h
    exact lp
  conv => cbv
  refine den_own' (ho := True.intro) [(30, 20000, true)] [] hP h (fun _ h => x_bits_NewReader h) fun r26 _ h => ?_
  conv => cbv
  refine den_own' [(30, 10000, false)] [] hP h (fun _ h => x_bits_Reader_Seek h) fun r27 _ h => ?_
  conv => cbv
  refine den_own' [(30, 10000, false)] [] hP h (fun _ h => x_bits_Reader_At h) fun r28 _ h => ?_
  conv => cbv
  refine .mk ?_
  conv => cbv
  refine den_own' [(30, 10000, false)] [] hP h (fun _ h => x_subframe_Read h) fun r29 _ h => ?_
  conv => cbv
  refine .mk ?_
  conv => cbv
  refine .mk ?_
  conv => cbv
  refine den_br h (fun _ h => ?_) (fun _ h => ?_)
  · conv => cbv
    refine .mk ?_
    conv => cbv
    refine .mk ?_
    conv => cbv
    refine .mk ?_
    conv => cbv
    refine den_br h (fun _ h => ?_) (fun _ h => ?_)
    · conv => cbv
      refine den_own' [(30, 10000, false)] [] hP h (fun _ h => x_bits_Reader_At h) fun r30 _ h => ?_
      conv => cbv
      refine .mk ?_
      conv => cbv
      refine den_br h (fun _ h => ?_) (fun _ h => ?_)
      · conv => cbv
        refine den_call' hP h (fun _ h => v_jetsamlaw07_awake h) fun r31 _ h => ?_
        conv => cbv
        cases h
        exact lp
      conv => cbv
      cases h
      exact lp
    conv => cbv
    refine .mk ?_
    conv => cbv
    cases h
    exact lp
  conv => cbv
  refine .mk ?_
  conv => cbv
  refine den_br h (fun _ h => ?_) (fun _ h => ?_)
  · conv => cbv
    refine .mk ?_
    conv => cbv
    refine .mk ?_
    conv => cbv
    refine den_br h (fun _ h => ?_) (fun _ h => ?_)
    · conv => cbv
      refine den_own' [(30, 10000, false)] [] hP h (fun _ h => x_bits_Reader_At h) fun r32 _ h => ?_
      conv => cbv
      refine .mk ?_
      conv => cbv
      refine den_br h (fun _ h => ?_) (fun _ h => ?_)
      · conv => cbv
        refine den_call' hP h (fun _ h => v_jetsamlaw07_awake h) fun r33 _ h => ?_
        conv => cbv
        cases h
        exact lp
      conv => cbv
      cases h
      exact lp
    conv => cbv
    refine .mk ?_
    conv => cbv
    cases h
    exact lp
  conv => cbv
  refine .mk ?_
  conv => cbv
  refine den_br h (fun _ h => ?_) (fun _ h => ?_)
  · conv => cbv
    refine .mk ?_
    conv => cbv
    refine den_br h (fun _ h => ?_) (fun _ h => ?_)
    · conv => cbv
      refine den_own' [(30, 10000, false)] [] hP h (fun _ h => x_bits_Reader_At h) fun r34 _ h => ?_
      conv => cbv
      refine .mk ?_
      conv => cbv
      refine den_br h (fun _ h => ?_) (fun _ h => ?_)
      · conv => cbv
        refine den_call' hP h (fun _ h => v_jetsamlaw07_awake h) fun r35 _ h => ?_
        conv => cbv
        cases h
        exact lp
      conv => cbv
      cases h
      exact lp
    conv => cbv
    refine .mk ?_
    conv => cbv
    cases h
    exact lp
  conv => cbv
  refine den_br h (fun _ h => ?_) (fun _ h => ?_)
  · conv => cbv
    refine .mk ?_
    conv => cbv
    refine den_br h (fun _ h => ?_) (fun _ h => ?_)
    · conv => cbv
      refine den_own' [(30, 10000, false)] [] hP h (fun _ h => x_bits_Reader_At h) fun r36 _ h => ?_
      conv => cbv
      refine .mk ?_
      conv => cbv
      refine den_br h (fun _ h => ?_) (fun _ h => ?_)
      · conv => cbv
        refine den_call' hP h (fun _ h => v_jetsamlaw07_awake h) fun r37 _ h => ?_
        conv => cbv
        cases h
        exact lp
      conv => cbv
      cases h
      exact lp
    conv => cbv
    refine .mk ?_
    conv => cbv
    cases h
    exact lp
  conv => cbv
  refine den_br h (fun _ h => ?_) (fun _ h => ?_)
  · conv => cbv
    refine .mk ?_
    conv => cbv
    refine .mk ?_
    conv => cbv
    refine .mk ?_
    conv => cbv
    refine den_br h (fun _ h => ?_) (fun _ h => ?_)
    · conv => cbv
      refine den_own' [(30, 10000, false)] [] hP h (fun _ h => x_bits_Reader_At h) fun r38 _ h => ?_
      conv => cbv
      refine .mk ?_
      conv => cbv
      refine den_br h (fun _ h => ?_) (fun _ h => ?_)
      · conv => cbv
        refine den_call' hP h (fun _ h => v_jetsamlaw07_awake h) fun r39 _ h => ?_
        conv => cbv
        cases h
        exact lp
      conv => cbv
      cases h
      exact lp
    conv => cbv
    refine .mk ?_
    conv => cbv
    cases h
    exact lp
  conv => cbv
  refine den_call' hP h (fun _ h => v_jetsamref01_Bits h) fun r40 _ h => ?_
  conv => cbv
  refine .dup ?_
  conv => cbv
  refine .mk (some []) (by kernel_rfl) ?_
  conv => cbv
  refine den_call' hP h (fun _ h => v_jetsamlaw07_Plain h) fun r41 _ h => ?_
  conv => cbv
  refine .mk ?_
  conv => cbv
  refine den_call' hP h (fun _ h => v_jetsamref07_Bits h) fun r42 _ h => ?_
  conv => cbv
  refine .mk ?_
  conv => cbv
  refine den_br h (fun _ h => ?_) (fun _ h => ?_)
  · conv => cbv
    refine .mk ?_
    conv => cbv
    refine .mk ?_
    conv => cbv
    refine den_br h (fun _ h => ?_) (fun _ h => ?_)
    · conv => cbv
      refine den_own' [(30, 10000, false)] [] hP h (fun _ h => x_bits_Reader_At h) fun r43 _ h => ?_
      conv => cbv
      refine .mk ?_
      conv => cbv
      refine den_br h (fun _ h => ?_) (fun _ h => ?_)
      · conv => cbv
        refine den_own' [(30, 10000, false)] [] hP h (fun _ h => x_bits_Reader_At h) fun r44 _ h => ?_
        conv => cbv
        refine .mk ?_
        conv => cbv
        refine den_br h (fun _ h => ?_) (fun _ h => ?_)
        · conv => cbv
          refine den_own' [(30, 10000, false)] [] hP h (fun _ h => x_bits_Reader_At h) fun r45 _ h => ?_
          conv => cbv
          refine den_sub h fun l46 _ h => ?_
          conv => cbv
          refine .mk ?_
          conv => cbv
          refine den_call' hP h (fun _ h => v_jetsamlaw01_Ints h) fun r47 _ h => ?_
          conv => cbv
          refine den_br h (fun _ h => ?_) (fun _ h => ?_)
          · conv => cbv
            refine den_call' hP h (fun _ h => v_jetsamlaw07_awake h) fun r48 _ h => ?_
            conv => cbv
            cases h
            exact lp
          conv => cbv
          cases h
          exact lp
        conv => cbv
        refine .mk ?_
        conv => cbv
        cases h
        exact lp
      conv => cbv
      refine .mk ?_
      conv => cbv
      refine .mk ?_
      conv => cbv
      cases h
      exact lp
    conv => cbv
    refine .mk ?_
    conv => cbv
    refine .mk ?_
    conv => cbv
    refine .mk ?_
    conv => cbv
    cases h
    exact lp
  conv => cbv
  refine .mk ?_
  conv => cbv
  refine .mk ?_
  conv => cbv
  refine .mk ?_
  conv => cbv
  refine .mk ?_
  conv => cbv
  refine .mk ?_
  conv => cbv
  cases h
  exact lp
end Go.Proofs.YtpjbfealfmjddaaGreatDoor
