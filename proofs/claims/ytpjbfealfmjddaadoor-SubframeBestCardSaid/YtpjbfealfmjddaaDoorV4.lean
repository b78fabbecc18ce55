/- That the code answers so, printed by a program. -/
import Derived.Test.YtpjbfealfmjddaaDoorF1
import Derived.Test.YtpjbfealfmjddaaDoorIt
import Derived.Test.YtpjbfealfmjddaaDoorProg
import Derived.Test.YtpjbfealfmjddaaDoorVm
import Derived.Test.YtpjbfealfmjddaaDoorV0
set_option maxRecDepth 4000
set_option linter.all false
set_option linter.unusedVariables false
set_option linter.unusedSimpArgs false
namespace Go.Proofs.YtpjbfealfmjddaaDoor
open Go Go.Vg
def T_jetsamlaw01_Bytes : Tab := [(5, ⟨.int .u8, 1, 1, [.int .u8 (.lit 0)]⟩), (59, ⟨.slice 5, 1, 24, [.nilsl]⟩)]
theorem T_jetsamlaw01_Bytes_ok : TabOk Tryd.prog T_jetsamlaw01_Bytes := tab_ok [5, 59]
theorem v_jetsamlaw01_Bytes {y0 : List Int} {y1 : List Int} {r : Bool} (h : jetsamlaw01_Bytes y0 y1 = some r) : AVal Tryd.prog Gl 29 [(e_sl 1 e_u8) y0, (e_sl 1 e_u8) y1] (e_bool r) := by
  refine aval_of' T_jetsamlaw01_Bytes Gl 26 Tryd.func29 T_jetsamlaw01_Bytes_ok Tryd_mixed fun P hP _ => ?_
  unfold jetsamlaw01_Bytes at h
  conv => cbv
  refine den_br h (fun _ h => ?_) (fun _ h => ?_)
  · conv => cbv
    cases h
    exact lp
  conv => cbv
  refine den_cut' (r := r) jetsamlaw01_Bytes_K1 (fun j1 => ⟨[], [], []⟩) ?_ (fun j1 h => ?_)
  · conv => cbv
    refine den_loop' (jetsamlaw01_Bytes_L1 y0 y1) h (fun a2 => ⟨[(0, .sl 1 e_u8 y0), (1, .sl 1 e_u8 y1), (5, .int .i64 (.v a2))], [], []⟩) (fun _ _ a2 x1 h hb1 hx1 => ?_)
    unfold jetsamlaw01_Bytes_L1 at h
    conv => cbv
    refine den_br h (fun _ h => ?_) (fun _ h => ?_)
    · conv => cbv
      refine .dup ?_
      conv => cbv
      refine .mk (some []) (by kernel_rfl) ?_
      conv => cbv
      refine den_elem h fun p3 _ h => ?_
      conv => cbv
      refine .mk ?_
      conv => cbv
      refine den_elem h fun p4 _ h => ?_
      conv => cbv
      refine den_br h (fun _ h => ?_) (fun _ h => ?_)
      · conv => cbv
        replace h := den_out h hx1
        cases h
        exact lp
      conv => cbv
      exact den_back' h hb1
    conv => cbv
    replace h := den_out h hx1
    exact den_join' h
  unfold jetsamlaw01_Bytes_K1 at h
  conv => cbv
  cases h
  exact lp
def T_jetsamlaw07_awake : Tab := [(3, ⟨.int .i64, 1, 8, [.int .i64 (.lit 0)]⟩), (5, ⟨.int .u8, 1, 1, [.int .u8 (.lit 0)]⟩), (22, ⟨.slice 3, 1, 24, [.nilsl]⟩), (29, ⟨.struct [(0, 3), (1, 3), (2, 3), (3, 25), (6, 27)], 10, 128, [.int .i64 (.lit 0), .int .i64 (.lit 0), .int .i64 (.lit 0), .int .i64 (.lit 0), .int .i64 (.lit 0), .nilsl, .int .i64 (.lit 0), .int .i64 (.lit 0), .nilsl, .nilsl]⟩), (52, ⟨.ptr 90, 1, 8, [.nilptr]⟩), (59, ⟨.slice 5, 1, 24, [.nilsl]⟩)]
theorem T_jetsamlaw07_awake_ok : TabOk Tryd.prog T_jetsamlaw07_awake := tab_ok [3, 5, 22, 29, 52, 59]
theorem v_jetsamlaw07_awake {r : Bool} (h : jetsamlaw07_awake = some r) : AVal Tryd.prog Gl 6 [] (e_bool r) := by
  refine aval_of' T_jetsamlaw07_awake Gl 44 Tryd.func6 T_jetsamlaw07_awake_ok Tryd_mixed fun P hP _ => ?_
  unfold jetsamlaw07_awake at h
  conv => cbv
  refine .data ?_
  conv => cbv
  refine den_call' hP h (fun _ h => v_subframe_Best h) fun r1 _ h => ?_
  conv => cbv
  refine .mk ?_
  conv => cbv
  refine den_own' (ho := True.intro) [(10, 20000, true), (1010, 20001, true)] [] hP h (fun _ h => x_bits_NewWriter h) fun r2 _ h => ?_
  conv => cbv
  refine .data ?_
  conv => cbv
  refine den_own' [(10, 10000, false), (1010, 10001, true)] [] hP h (fun _ h => x_subframe_Write h) fun r3 _ h => ?_
  conv => cbv
  refine .mk ?_
  conv => cbv
  refine .mk ?_
  conv => cbv
  refine .mk ?_
  conv => cbv
  refine den_br h (fun _ h => ?_) (fun _ h => ?_)
  · conv => cbv
    refine den_own' [(10, 10000, false), (1010, 10001, true)] [] hP h (fun _ h => x_bits_Writer_Len h) fun r4 _ h => ?_
    conv => cbv
    refine .mk ?_
    conv => cbv
    refine den_br h (fun _ h => ?_) (fun _ h => ?_)
    · conv => cbv
      refine den_own' [(10, 10000, false), (1010, 10001, true)] [] hP h (fun _ h => x_bits_Writer_Bytes h) fun r5 _ h => ?_
      conv => cbv
      refine .data ?_
      conv => cbv
      refine den_call' hP h (fun _ h => v_jetsamlaw01_Bytes h) fun r6 _ h => ?_
      conv => cbv
      cases h
      exact lp
    conv => cbv
    cases h
    exact lp
  conv => cbv
  refine .mk ?_
  conv => cbv
  cases h
  exact lp
def T_jetsamlaw01_Ints : Tab := [(3, ⟨.int .i64, 1, 8, [.int .i64 (.lit 0)]⟩), (22, ⟨.slice 3, 1, 24, [.nilsl]⟩)]
theorem T_jetsamlaw01_Ints_ok : TabOk Tryd.prog T_jetsamlaw01_Ints := tab_ok [3, 22]
theorem v_jetsamlaw01_Ints {y0 : List Int} {y1 : List Int} {r : Bool} (h : jetsamlaw01_Ints y0 y1 = some r) : AVal Tryd.prog Gl 18 [(e_sl 1 e_i64) y0, (e_sl 1 e_i64) y1] (e_bool r) := by
  refine aval_of' T_jetsamlaw01_Ints Gl 26 Tryd.func18 T_jetsamlaw01_Ints_ok Tryd_mixed fun P hP _ => ?_
  unfold jetsamlaw01_Ints at h
  conv => cbv
  refine den_br h (fun _ h => ?_) (fun _ h => ?_)
  · conv => cbv
    cases h
    exact lp
  conv => cbv
  refine den_cut' (r := r) jetsamlaw01_Ints_K1 (fun j1 => ⟨[], [], []⟩) ?_ (fun j1 h => ?_)
  · conv => cbv
    refine den_loop' (jetsamlaw01_Ints_L1 y0 y1) h (fun a2 => ⟨[(0, .sl 1 e_i64 y0), (1, .sl 1 e_i64 y1), (5, .int .i64 (.v a2))], [], []⟩) (fun _ _ a2 x1 h hb1 hx1 => ?_)
    unfold jetsamlaw01_Ints_L1 at h
    conv => cbv
    refine den_br h (fun _ h => ?_) (fun _ h => ?_)
    · conv => cbv
      refine .dup ?_
      conv => cbv
      refine .mk (some []) (by kernel_rfl) ?_
      conv => cbv
      refine den_elem h fun p3 _ h => ?_
      conv => cbv
      refine .mk ?_
      conv => cbv
      refine den_elem h fun p4 _ h => ?_
      conv => cbv
      refine den_br h (fun _ h => ?_) (fun _ h => ?_)
      · conv => cbv
        replace h := den_out h hx1
        cases h
        exact lp
      conv => cbv
      exact den_back' h hb1
    conv => cbv
    replace h := den_out h hx1
    exact den_join' h
  unfold jetsamlaw01_Ints_K1 at h
  conv => cbv
  cases h
  exact lp
def T_jetsamlaw05_Same : Tab := [(3, ⟨.int .i64, 1, 8, [.int .i64 (.lit 0)]⟩), (22, ⟨.slice 3, 1, 24, [.nilsl]⟩), (27, ⟨.struct [(0, 3), (1, 3), (2, 22), (3, 22)], 4, 64, [.int .i64 (.lit 0), .int .i64 (.lit 0), .nilsl, .nilsl]⟩)]
theorem T_jetsamlaw05_Same_ok : TabOk Tryd.prog T_jetsamlaw05_Same := tab_ok [3, 22, 27]
theorem v_jetsamlaw05_Same {y0 : rice_Plan} {y1 : rice_Plan} {r : Bool} (h : jetsamlaw05_Same y0 y1 = some r) : AVal Tryd.prog Gl 40 [e_rice_Plan y0, e_rice_Plan y1] (e_bool r) := by
  refine aval_of' T_jetsamlaw05_Same Gl 31 Tryd.func40 T_jetsamlaw05_Same_ok Tryd_mixed fun P hP _ => ?_
  unfold jetsamlaw05_Same at h
  conv => cbv
  refine .mk ?_
  conv => cbv
  refine .mk ?_
  conv => cbv
  refine .mk ?_
  conv => cbv
  refine den_br h (fun _ h => ?_) (fun _ h => ?_)
  · conv => cbv
    refine den_call' hP h (fun _ h => v_jetsamlaw01_Ints h) fun r1 _ h => ?_
    conv => cbv
    refine .mk ?_
    conv => cbv
    refine den_br h (fun _ h => ?_) (fun _ h => ?_)
    · conv => cbv
      refine den_call' hP h (fun _ h => v_jetsamlaw01_Ints h) fun r2 _ h => ?_
      conv => cbv
      cases h
      exact lp
    conv => cbv
    cases h
    exact lp
  conv => cbv
  refine .mk ?_
  conv => cbv
  cases h
  exact lp
def T_jetsamlaw07_Same : Tab := [(3, ⟨.int .i64, 1, 8, [.int .i64 (.lit 0)]⟩), (22, ⟨.slice 3, 1, 24, [.nilsl]⟩), (25, ⟨.struct [(0, 3), (1, 3), (2, 22)], 3, 40, [.int .i64 (.lit 0), .int .i64 (.lit 0), .nilsl]⟩), (27, ⟨.struct [(0, 3), (1, 3), (2, 22), (3, 22)], 4, 64, [.int .i64 (.lit 0), .int .i64 (.lit 0), .nilsl, .nilsl]⟩), (29, ⟨.struct [(0, 3), (1, 3), (2, 3), (3, 25), (6, 27)], 10, 128, [.int .i64 (.lit 0), .int .i64 (.lit 0), .int .i64 (.lit 0), .int .i64 (.lit 0), .int .i64 (.lit 0), .nilsl, .int .i64 (.lit 0), .int .i64 (.lit 0), .nilsl, .nilsl]⟩)]
theorem T_jetsamlaw07_Same_ok : TabOk Tryd.prog T_jetsamlaw07_Same := tab_ok [3, 22, 25, 27, 29]
theorem v_jetsamlaw07_Same {y0 : subframe_Plan} {y1 : subframe_Plan} {r : Bool} (h : jetsamlaw07_Same y0 y1 = some r) : AVal Tryd.prog Gl 8 [e_subframe_Plan y0, e_subframe_Plan y1] (e_bool r) := by
  refine aval_of' T_jetsamlaw07_Same Gl 58 Tryd.func8 T_jetsamlaw07_Same_ok Tryd_mixed fun P hP _ => ?_
  unfold jetsamlaw07_Same at h
  conv => cbv
  refine .mk ?_
  conv => cbv
  refine .mk ?_
  conv => cbv
  refine .mk ?_
  conv => cbv
  refine .mk ?_
  conv => cbv
  refine .mk ?_
  conv => cbv
  refine .mk ?_
  conv => cbv
  refine .mk ?_
  conv => cbv
  refine .mk ?_
  conv => cbv
  refine den_br h (fun _ h => ?_) (fun _ h => ?_)
  · conv => cbv
    refine den_call' hP h (fun _ h => v_jetsamlaw01_Ints h) fun r1 _ h => ?_
    conv => cbv
    refine .mk ?_
    conv => cbv
    refine den_br h (fun _ h => ?_) (fun _ h => ?_)
    · conv => cbv
      refine den_call' hP h (fun _ h => v_jetsamlaw05_Same h) fun r2 _ h => ?_
      conv => cbv
      cases h
      exact lp
    conv => cbv
    cases h
    exact lp
  conv => cbv
  refine .mk ?_
  conv => cbv
  cases h
  exact lp
def T_jetsamref07_Fits : Tab := [(3, ⟨.int .i64, 1, 8, [.int .i64 (.lit 0)]⟩), (22, ⟨.slice 3, 1, 24, [.nilsl]⟩)]
theorem T_jetsamref07_Fits_ok : TabOk Tryd.prog T_jetsamref07_Fits := tab_ok [3, 22]
theorem v_jetsamref07_Fits {y0 : Int} {y1 : List Int} {r : Bool} (h : jetsamref07_Fits y0 y1 = some r) : AVal Tryd.prog Gl 9 [e_i64 y0, (e_sl 1 e_i64) y1] (e_bool r) := by
  refine aval_of' T_jetsamref07_Fits Gl 31 Tryd.func9 T_jetsamref07_Fits_ok Tryd_mixed fun P hP _ => ?_
  unfold jetsamref07_Fits at h
  conv => cbv
  refine den_cut' (r := r) jetsamref07_Fits_K1 (fun j1 => ⟨[], [], []⟩) ?_ (fun j1 h => ?_)
  · conv => cbv
    refine den_loop' (jetsamref07_Fits_L1 y0 y1) h (fun a2 => ⟨[(0, .int .i64 (.v y0)), (1, .sl 1 e_i64 y1), (5, .int .i64 (.v a2))], [], []⟩) (fun _ _ a2 x1 h hb1 hx1 => ?_)
    unfold jetsamref07_Fits_L1 at h
    conv => cbv
    refine den_br h (fun _ h => ?_) (fun _ h => ?_)
    · conv => cbv
      refine den_cut' (r := x1) (jetsamref07_Fits_K2 a2) (fun j3 => ⟨[(0, .int .i64 (.v y0)), (1, .sl 1 e_i64 y1), (5, .int .i64 (.v a2)), (30, .bool (.v j3))], [], []⟩) ?_ (fun j3 h => ?_)
      · conv => cbv
        refine .mk (some []) (by kernel_rfl) ?_
        conv => cbv
        refine den_elem h fun p4 _ h => ?_
        conv => cbv
        refine .mk ?_
        conv => cbv
        refine den_chk h fun h => ?_
        conv => cbv
        refine .mk ?_
        conv => cbv
        refine den_br h (fun _ h => ?_) (fun _ h => ?_)
        · conv => cbv
          refine .mk ?_
          conv => cbv
          exact den_join' h
        conv => cbv
        refine den_elem h fun p5 _ h => ?_
        conv => cbv
        refine den_chk h fun h => ?_
        conv => cbv
        refine .mk ?_
        conv => cbv
        exact den_join' h
      unfold jetsamref07_Fits_K2 at h
      conv => cbv
      refine den_br h (fun _ h => ?_) (fun _ h => ?_)
      · conv => cbv
        replace h := den_out h hx1
        cases h
        exact lp
      conv => cbv
      exact den_back' h hb1
    conv => cbv
    replace h := den_out h hx1
    exact den_join' h
  unfold jetsamref07_Fits_K1 at h
  conv => cbv
  cases h
  exact lp
def T_jetsamref07_Less : Tab := [(3, ⟨.int .i64, 1, 8, [.int .i64 (.lit 0)]⟩), (22, ⟨.slice 3, 1, 24, [.nilsl]⟩)]
theorem T_jetsamref07_Less_ok : TabOk Tryd.prog T_jetsamref07_Less := tab_ok [3, 22]
theorem v_jetsamref07_Less {y0 : Int} {y1 : List Int} {r : (List Int) × Bool} (h : jetsamref07_Less y0 y1 = some r) : AVal Tryd.prog Gl 11 [e_i64 y0, (e_sl 1 e_i64) y1] (.tup [(e_sl 1 e_i64) r.1, e_bool r.2]) := by
  refine aval_of' T_jetsamref07_Less Gl 33 Tryd.func11 T_jetsamref07_Less_ok Tryd_mixed fun P hP _ => ?_
  unfold jetsamref07_Less at h
  conv => cbv
  refine den_cut' (r := r) jetsamref07_Less_K1 (fun j1 => ⟨[(6, .osl 1006)], [(1006, .arr false 3 1 e_i64 j1)], []⟩) ?_ (fun j1 h => ?_)
  · conv => cbv
    refine den_loop (jetsamref07_Less_L1 y0 y1) h (fun a2 : Int × (List Int) => ⟨[(0, .int .i64 (.v y0)), (1, .sl 1 e_i64 y1), (6, .osl 1006), (7, .int .i64 (.v a2.1))], [(1006, .arr false 3 1 e_i64 a2.2)], []⟩) ?_ (fun _ _ a2 x1 h hb1 hx1 => ?_)
    · intro j0 hj
      conv => cbv
      subst hj
      exact ⟨⟨.arr _ _ _ _ _ _ rfl, trivial⟩, .same _, .same _, .own _ _ _ _ _ _ rfl rfl, .int _ _ _ rfl, trivial⟩
    unfold jetsamref07_Less_L1 at h
    conv => cbv
    refine den_br h (fun _ h => ?_) (fun _ h => ?_)
    · conv => cbv
      refine .dup ?_
      conv => cbv
      refine .mk (some []) (by kernel_rfl) ?_
      conv => cbv
      refine den_elem h fun p3 _ h => ?_
      conv => cbv
      refine .mk ?_
      conv => cbv
      refine den_chk h fun h => ?_
      conv => cbv
      refine den_chk h fun h => ?_
      conv => cbv
      refine den_br h (fun _ h => ?_) (fun _ h => ?_)
      · conv => cbv
        replace h := den_out h hx1
        cases h
        exact .tup _ _ lp
      conv => cbv
      refine .mk (some [1006]) (by kernel_rfl) ?_
      conv => cbv
      refine den_elem h fun p4 _ h => ?_
      conv => cbv
      refine .mk ?_
      conv => cbv
      refine den_chk h fun h => ?_
      conv => cbv
      refine den_chk h fun h => ?_
      conv => cbv
      refine .data ?_
      conv => cbv
      refine den_app_own e_i64 (xs := [(W (p4.tdiv (shD .shl .i64 1 y0)))]) h rfl lp fun l5 _ h => ?_
      conv => cbv
      exact den_back' h hb1
    conv => cbv
    replace h := den_out h hx1
    exact den_join' h
  unfold jetsamref07_Less_K1 at h
  conv => cbv
  cases h
  exact .tup _ _ lp
def T_jetsamref07_Wasted : Tab := [(3, ⟨.int .i64, 1, 8, [.int .i64 (.lit 0)]⟩), (22, ⟨.slice 3, 1, 24, [.nilsl]⟩)]
theorem T_jetsamref07_Wasted_ok : TabOk Tryd.prog T_jetsamref07_Wasted := tab_ok [3, 22]
theorem v_jetsamref07_Wasted {y0 : List Int} {r : Int} (h : jetsamref07_Wasted y0 = some r) : AVal Tryd.prog Gl 10 [(e_sl 1 e_i64) y0] (e_i64 r) := by
  refine aval_of' T_jetsamref07_Wasted Gl 39 Tryd.func10 T_jetsamref07_Wasted_ok Tryd_mixed fun P hP _ => ?_
  unfold jetsamref07_Wasted at h
  conv => cbv
  refine den_cut' (r := r) jetsamref07_Wasted_K1 (fun j1 => ⟨[(3, .int .i64 (.v j1))], [], []⟩) ?_ (fun j1 h => ?_)
  · conv => cbv
    refine den_loop' (jetsamref07_Wasted_L1 y0) h (fun a2 => ⟨[(0, .sl 1 e_i64 y0), (3, .int .i64 (.v a2))], [], []⟩) (fun _ _ a2 x1 h hb1 hx1 => ?_)
    unfold jetsamref07_Wasted_L1 at h
    conv => cbv
    refine den_br h (fun _ h => ?_) (fun _ h => ?_)
    · conv => cbv
      refine .mk ?_
      conv => cbv
      refine den_call' hP h (fun _ h => v_jetsamref07_Less h) fun r3 _ h => ?_
      conv => cbv
      refine den_br h (fun _ h => ?_) (fun _ h => ?_)
      · conv => cbv
        replace h := den_out h hx1
        cases h
        exact lp
      conv => cbv
      refine den_cut' (r := x1) (jetsamref07_Wasted_K2 a2) (fun j4 => ⟨[(0, .sl 1 e_i64 y0), (3, .int .i64 (.v a2)), (6, .bool (.v j4))], [], []⟩) ?_ (fun j4 h => ?_)
      · conv => cbv
        refine den_loop' (jetsamref07_Wasted_L2 a2 r3) h (fun a5 => ⟨[(0, .sl 1 e_i64 y0), (3, .int .i64 (.v a2)), (4, .sl 1 e_i64 r3.1), (6, .bool (.v a5.1)), (7, .int .i64 (.v a5.2))], [], []⟩) (fun _ _ a5 x2 h hb2 hx2 => ?_)
        unfold jetsamref07_Wasted_L2 at h
        conv => cbv
        refine den_br h (fun _ h => ?_) (fun _ h => ?_)
        · conv => cbv
          refine .mk ?_
          conv => cbv
          refine den_br h (fun _ h => ?_) (fun _ h => ?_)
          · conv => cbv
            exact den_back' h hb2
          conv => cbv
          refine den_elem h fun p6 _ h => ?_
          conv => cbv
          exact den_back' h hb2
        conv => cbv
        replace h := den_out h hx2
        exact den_join' h
      unfold jetsamref07_Wasted_K2 at h
      conv => cbv
      refine den_br h (fun _ h => ?_) (fun _ h => ?_)
      · conv => cbv
        replace h := den_out h hx1
        cases h
        exact lp
      conv => cbv
      exact den_back' h hb1
    conv => cbv
    replace h := den_out h hx1
    exact den_join' h
  unfold jetsamref07_Wasted_K1 at h
  conv => cbv
  cases h
  exact lp
def T_jetsamref06_may : Tab := []
theorem T_jetsamref06_may_ok : TabOk Tryd.prog T_jetsamref06_may := tab_ok []
theorem v_jetsamref06_may {y0 : Int} {r : Bool} (h : jetsamref06_may y0 = some r) : AVal Tryd.prog Gl 41 [e_i64 y0] (e_bool r) := by
  refine aval_of' T_jetsamref06_may Gl 9 Tryd.func41 T_jetsamref06_may_ok Tryd_mixed fun P hP _ => ?_
  unfold jetsamref06_may at h
  conv => cbv
  refine .mk ?_
  conv => cbv
  cases h
  exact lp
def T_jetsamref06_Differ : Tab := [(3, ⟨.int .i64, 1, 8, [.int .i64 (.lit 0)]⟩), (22, ⟨.slice 3, 1, 24, [.nilsl]⟩)]
theorem T_jetsamref06_Differ_ok : TabOk Tryd.prog T_jetsamref06_Differ := tab_ok [3, 22]
theorem v_jetsamref06_Differ {y0 : Int} {y1 : List Int} {r : List Int} (h : jetsamref06_Differ y0 y1 = some r) : AVal Tryd.prog Gl 42 [e_i64 y0, (e_sl 1 e_i64) y1] ((e_sl 1 e_i64) r) := by
  refine aval_of' T_jetsamref06_Differ Gl 38 Tryd.func42 T_jetsamref06_Differ_ok Tryd_mixed fun P hP _ => ?_
  unfold jetsamref06_Differ at h
  conv => cbv
  refine den_app_nil 1005 e_i64 (xs := y1) h (News.map rfl) fun l1 _ h => ?_
  conv => cbv
  refine den_cut' (r := r) jetsamref06_Differ_K1 (fun j2 => ⟨[(5, .sl 1 e_i64 j2)], [], []⟩) ?_ (fun j2 h => ?_)
  · conv => cbv
    refine den_loop' (jetsamref06_Differ_L1 y0) h (fun a3 => ⟨[(0, .int .i64 (.v y0)), (5, .sl 1 e_i64 a3.1), (6, .int .i64 (.v a3.2))], [], []⟩) (fun _ _ a3 x1 h hb1 hx1 => ?_)
    unfold jetsamref06_Differ_L1 at h
    conv => cbv
    refine den_br h (fun _ h => ?_) (fun _ h => ?_)
    · conv => cbv
      refine den_cut' (r := x1) (jetsamref06_Differ_K2 a3) (fun j4 => ⟨[(0, .int .i64 (.v y0)), (5, .osl 1007), (6, .int .i64 (.v a3.2))], [(1007, .arr false 3 1 e_i64 j4)], []⟩) ?_ (fun j4 h => ?_)
      · conv => cbv
        refine den_cut' (r := x1) (jetsamref06_Differ_K3 a3) (fun j5 => ⟨[(0, .int .i64 (.v y0)), (6, .int .i64 (.v a3.2)), (7, .osl 1007)], [(1007, .arr false 3 1 e_i64 j5)], []⟩) ?_ (fun j5 h => ?_)
        · conv => cbv
          refine den_loop (jetsamref06_Differ_L2 a3) h (fun a6 : Int × (List Int) => ⟨[(0, .int .i64 (.v y0)), (5, .sl 1 e_i64 a3.1), (6, .int .i64 (.v a3.2)), (7, .osl 1007), (8, .int .i64 (.v a6.1))], [(1007, .arr false 3 1 e_i64 a6.2)], []⟩) ?_ (fun _ _ a6 x2 h hb2 hx2 => ?_)
          · intro j0 hj
            conv => cbv
            subst hj
            exact ⟨⟨.arr _ _ _ _ _ _ rfl, trivial⟩, .same _, .same _, .same _, .own _ _ _ _ _ _ rfl rfl, .int _ _ _ rfl, trivial⟩
          unfold jetsamref06_Differ_L2 at h
          conv => cbv
          refine den_br h (fun _ h => ?_) (fun _ h => ?_)
          · conv => cbv
            refine .mk (some [1007]) (by kernel_rfl) ?_
            conv => cbv
            refine den_elem h fun p7 _ h => ?_
            conv => cbv
            refine .mk ?_
            conv => cbv
            refine den_elem h fun p8 _ h => ?_
            conv => cbv
            refine .mk ?_
            conv => cbv
            refine .data ?_
            conv => cbv
            refine den_app_own e_i64 (xs := [(W (p7 - p8))]) h rfl lp fun l9 _ h => ?_
            conv => cbv
            exact den_back' h hb2
          conv => cbv
          replace h := den_out h hx2
          exact den_join' h
        unfold jetsamref06_Differ_K3 at h
        conv => cbv
        exact den_join' h
      unfold jetsamref06_Differ_K2 at h
      conv => cbv
      exact den_back' h hb1
    conv => cbv
    replace h := den_out h hx1
    exact den_join' h
  unfold jetsamref06_Differ_K1 at h
  conv => cbv
  cases h
  exact lp
def T_jetsamref06_Best : Tab := [(3, ⟨.int .i64, 1, 8, [.int .i64 (.lit 0)]⟩), (22, ⟨.slice 3, 1, 24, [.nilsl]⟩)]
theorem T_jetsamref06_Best_ok : TabOk Tryd.prog T_jetsamref06_Best := tab_ok [3, 22]
theorem v_jetsamref06_Best {y0 : List Int} {r : Int} (h : jetsamref06_Best y0 = some r) : AVal Tryd.prog Gl 12 [(e_sl 1 e_i64) y0] (e_i64 r) := by
  refine aval_of' T_jetsamref06_Best Gl 63 Tryd.func12 T_jetsamref06_Best_ok Tryd_mixed fun P hP _ => ?_
  unfold jetsamref06_Best at h
  conv => cbv
  refine den_cut' (r := r) (jetsamref06_Best_K1 y0) (fun j1 => ⟨[(0, .sl 1 e_i64 y0)], [], []⟩) ?_ (fun j1 h => ?_)
  · conv => cbv
    refine den_loop' (jetsamref06_Best_L3 y0) h (fun a10 => ⟨[(0, .sl 1 e_i64 y0), (3, .int .i64 (.v a10))], [], []⟩) (fun _ _ a10 x1 h hb1 hx1 => ?_)
    unfold jetsamref06_Best_L3 at h
    conv => cbv
    refine den_br h (fun _ h => ?_) (fun _ h => ?_)
    · conv => cbv
      refine .mk ?_
      conv => cbv
      refine den_elem h fun p11 _ h => ?_
      conv => cbv
      refine den_call' hP h (fun _ h => v_jetsamref06_may h) fun r12 _ h => ?_
      conv => cbv
      refine den_br h (fun _ h => ?_) (fun _ h => ?_)
      · conv => cbv
        replace h := den_out h hx1
        cases h
        exact lp
      conv => cbv
      exact den_back' h hb1
    conv => cbv
    replace h := den_out h hx1
    exact den_join' h
  unfold jetsamref06_Best_K1 at h
  conv => cbv
  refine den_cut' (r := r) jetsamref06_Best_K2 (fun j2 => ⟨[(4, .int .i64 (.v j2))], [], []⟩) ?_ (fun j2 h => ?_)
  · conv => cbv
    refine den_loop' (jetsamref06_Best_L1 y0) h (fun a3 => ⟨[(0, .sl 1 e_i64 y0), (4, .int .i64 (.v a3.1)), (5, .int .i64 (.v a3.2.1)), (6, .int .i64 (.v a3.2.2))], [], []⟩) (fun _ _ a3 x1 h hb1 hx1 => ?_)
    unfold jetsamref06_Best_L1 at h
    conv => cbv
    refine .mk ?_
    conv => cbv
    refine den_br h (fun _ h => ?_) (fun _ h => ?_)
    · conv => cbv
      refine den_cut' (r := x1) (jetsamref06_Best_K3 a3) (fun j4 => ⟨[(0, .sl 1 e_i64 y0), (4, .int .i64 (.v j4.1)), (5, .int .i64 (.v j4.2)), (6, .int .i64 (.v a3.2.2))], [], []⟩) ?_ (fun j4 h => ?_)
      · conv => cbv
        refine den_call' hP h (fun _ h => v_jetsamref06_Differ h) fun r5 _ h => ?_
        conv => cbv
        refine den_cut' (r := x1) (jetsamref06_Best_K4 a3) (fun j6 => ⟨[(0, .sl 1 e_i64 y0), (4, .int .i64 (.v a3.1)), (5, .int .i64 (.v a3.2.1)), (6, .int .i64 (.v a3.2.2)), (8, .int .i64 (.v j6))], [], []⟩) ?_ (fun j6 h => ?_)
        · conv => cbv
          refine den_loop' (jetsamref06_Best_L2 a3 r5) h (fun a7 => ⟨[(0, .sl 1 e_i64 y0), (4, .int .i64 (.v a3.1)), (5, .int .i64 (.v a3.2.1)), (6, .int .i64 (.v a3.2.2)), (7, .sl 1 e_i64 r5), (8, .int .i64 (.v a7.1)), (9, .int .i64 (.v a7.2))], [], []⟩) (fun _ _ a7 x2 h hb2 hx2 => ?_)
          unfold jetsamref06_Best_L2 at h
          conv => cbv
          refine den_br h (fun _ h => ?_) (fun _ h => ?_)
          · conv => cbv
            refine .mk (some []) (by kernel_rfl) ?_
            conv => cbv
            refine den_elem h fun p8 _ h => ?_
            conv => cbv
            refine .mk ?_
            conv => cbv
            refine den_elem h fun p9 _ h => ?_
            conv => cbv
            refine .mk ?_
            conv => cbv
            exact den_back' h hb2
          conv => cbv
          replace h := den_out h hx2
          exact den_join' h
        unfold jetsamref06_Best_K4 at h
        conv => cbv
        refine .mk ?_
        conv => cbv
        refine den_br h (fun _ h => ?_) (fun _ h => ?_)
        · conv => cbv
          exact den_join' h
        conv => cbv
        exact den_join' h
      unfold jetsamref06_Best_K3 at h
      conv => cbv
      exact den_back' h hb1
    conv => cbv
    replace h := den_out h hx1
    exact den_join' h
  unfold jetsamref06_Best_K2 at h
  conv => cbv
  cases h
  exact lp
def T_jetsamref07_Coefs : Tab := [(3, ⟨.int .i64, 1, 8, [.int .i64 (.lit 0)]⟩), (22, ⟨.slice 3, 1, 24, [.nilsl]⟩), (36, ⟨.struct [(0, 3), (1, 3), (2, 22)], 3, 40, [.int .i64 (.lit 0), .int .i64 (.lit 0), .nilsl]⟩), (81, ⟨.slice 22, 1, 24, [.nilsl]⟩)]
theorem T_jetsamref07_Coefs_ok : TabOk Tryd.prog T_jetsamref07_Coefs := tab_ok [3, 22, 36, 81]
theorem v_jetsamref07_Coefs {y0 : Int} {r : jetsamref06_Linear} (h : jetsamref07_Coefs y0 = some r) : AVal Tryd.prog Gl 14 [e_i64 y0] (e_jetsamref06_Linear r) := by
  refine aval_of' T_jetsamref07_Coefs Gl 15 Tryd.func14 T_jetsamref07_Coefs_ok Tryd_mixed fun P hP _ => ?_
  unfold jetsamref07_Coefs at h
  conv => cbv
  refine .data ?_
  conv => cbv
  refine .mk ?_
  conv => cbv
  refine .data ?_
  conv => cbv
  refine .data ?_
  conv => cbv
  refine .data ?_
  conv => cbv
  refine .data ?_
  conv => cbv
  refine .data ?_
  conv => cbv
  refine .mk ?_
  conv => cbv
  refine den_elemV (f := (e_sl 1 e_i64)) lp h fun p1 _ h => ?_
  conv => cbv
  cases h
  exact .agg _ _ lp
def T_jetsamref06_Check : Tab := [(3, ⟨.int .i64, 1, 8, [.int .i64 (.lit 0)]⟩), (22, ⟨.slice 3, 1, 24, [.nilsl]⟩), (36, ⟨.struct [(0, 3), (1, 3), (2, 22)], 3, 40, [.int .i64 (.lit 0), .int .i64 (.lit 0), .nilsl]⟩)]
theorem T_jetsamref06_Check_ok : TabOk Tryd.prog T_jetsamref06_Check := tab_ok [3, 22, 36]
theorem v_jetsamref06_Check {y0 : jetsamref06_Linear} {r : Int} (h : jetsamref06_Check y0 = some r) : AVal Tryd.prog Gl 43 [e_jetsamref06_Linear y0] (e_i64 r) := by
  refine aval_of' T_jetsamref06_Check Gl 58 Tryd.func43 T_jetsamref06_Check_ok Tryd_mixed fun P hP _ => ?_
  unfold jetsamref06_Check at h
  conv => cbv
  refine .mk ?_
  conv => cbv
  refine .mk ?_
  conv => cbv
  refine .mk ?_
  conv => cbv
  refine .mk ?_
  conv => cbv
  refine den_br h (fun _ h => ?_) (fun _ h => ?_)
  · conv => cbv
    cases h
    exact lp
  conv => cbv
  refine den_cut' (r := r) jetsamref06_Check_K1 (fun j1 => ⟨[], [], []⟩) ?_ (fun j1 h => ?_)
  · conv => cbv
    refine den_loop' (jetsamref06_Check_L1 y0) h (fun a2 => ⟨[(1, .ptr 1 0), (3, .int .i64 (.v a2))], [(1, .var [.int .i64 (.v y0.Precision), .int .i64 (.v y0.Shift), .sl 1 e_i64 y0.Coefs])], []⟩) (fun _ _ a2 x1 h hb1 hx1 => ?_)
    unfold jetsamref06_Check_L1 at h
    conv => cbv
    refine den_br h (fun _ h => ?_) (fun _ h => ?_)
    · conv => cbv
      refine den_cut' (r := x1) (jetsamref06_Check_K2 a2) (fun j3 => ⟨[(1, .ptr 1 0), (3, .int .i64 (.v a2)), (57, .bool (.v j3))], [(1, .var [.int .i64 (.v y0.Precision), .int .i64 (.v y0.Shift), .sl 1 e_i64 y0.Coefs])], []⟩) ?_ (fun j3 h => ?_)
      · conv => cbv
        refine .mk (some []) (by kernel_rfl) ?_
        conv => cbv
        refine den_elem h fun p4 _ h => ?_
        conv => cbv
        refine .mk ?_
        conv => cbv
        refine den_chk h fun h => ?_
        conv => cbv
        refine .mk ?_
        conv => cbv
        refine .mk ?_
        conv => cbv
        refine den_br h (fun _ h => ?_) (fun _ h => ?_)
        · conv => cbv
          exact den_join' h
        conv => cbv
        refine den_elem h fun p5 _ h => ?_
        conv => cbv
        refine den_chk h fun h => ?_
        conv => cbv
        exact den_join' h
      unfold jetsamref06_Check_K2 at h
      conv => cbv
      refine den_br h (fun _ h => ?_) (fun _ h => ?_)
      · conv => cbv
        replace h := den_out h hx1
        cases h
        exact lp
      conv => cbv
      exact den_back' h hb1
    conv => cbv
    replace h := den_out h hx1
    exact den_join' h
  unfold jetsamref06_Check_K1 at h
  conv => cbv
  cases h
  exact lp
def T_jetsamref06_Told : Tab := [(3, ⟨.int .i64, 1, 8, [.int .i64 (.lit 0)]⟩), (22, ⟨.slice 3, 1, 24, [.nilsl]⟩), (36, ⟨.struct [(0, 3), (1, 3), (2, 22)], 3, 40, [.int .i64 (.lit 0), .int .i64 (.lit 0), .nilsl]⟩)]
theorem T_jetsamref06_Told_ok : TabOk Tryd.prog T_jetsamref06_Told := tab_ok [3, 22, 36]
theorem v_jetsamref06_Told {y0 : jetsamref06_Linear} {y1 : List Int} {r : Int} (h : jetsamref06_Told y0 y1 = some r) : AVal Tryd.prog Gl 44 [e_jetsamref06_Linear y0, (e_sl 1 e_i64) y1] (e_i64 r) := by
  refine aval_of' T_jetsamref06_Told Gl 46 Tryd.func44 T_jetsamref06_Told_ok Tryd_mixed fun P hP _ => ?_
  unfold jetsamref06_Told at h
  conv => cbv
  refine den_cut' (r := r) (jetsamref06_Told_K1 y0) (fun j1 => ⟨[(2, .ptr 2 0), (5, .int .i64 (.v j1))], [(2, .var [.int .i64 (.v y0.Precision), .int .i64 (.v y0.Shift), .sl 1 e_i64 y0.Coefs])], []⟩) ?_ (fun j1 h => ?_)
  · conv => cbv
    refine den_loop' (jetsamref06_Told_L1 y0 y1) h (fun a3 => ⟨[(1, .sl 1 e_i64 y1), (2, .ptr 2 0), (5, .int .i64 (.v a3.1)), (6, .int .i64 (.v a3.2))], [(2, .var [.int .i64 (.v y0.Precision), .int .i64 (.v y0.Shift), .sl 1 e_i64 y0.Coefs])], []⟩) (fun _ _ a3 x1 h hb1 hx1 => ?_)
    unfold jetsamref06_Told_L1 at h
    conv => cbv
    refine den_br h (fun _ h => ?_) (fun _ h => ?_)
    · conv => cbv
      refine .mk (some []) (by kernel_rfl) ?_
      conv => cbv
      refine den_elem h fun p4 _ h => ?_
      conv => cbv
      refine .mk ?_
      conv => cbv
      refine .mk ?_
      conv => cbv
      refine den_elem h fun p5 _ h => ?_
      conv => cbv
      exact den_back' h hb1
    conv => cbv
    replace h := den_out h hx1
    exact den_join' h
  unfold jetsamref06_Told_K1 at h
  conv => cbv
  refine den_chk h fun h => ?_
  conv => cbv
  refine den_chk h fun h => ?_
  conv => cbv
  refine den_cut' (r := r) jetsamref06_Told_K2 (fun j2 => ⟨[(8, .int .i64 (.v j2))], [], []⟩) ?_ (fun j2 h => ?_)
  · conv => cbv
    refine den_br h (fun _ h => ?_) (fun _ h => ?_)
    · conv => cbv
      exact den_join' h
    conv => cbv
    exact den_join' h
  unfold jetsamref06_Told_K2 at h
  conv => cbv
  cases h
  exact lp
def T_jetsamref06_Residual : Tab := [(3, ⟨.int .i64, 1, 8, [.int .i64 (.lit 0)]⟩), (22, ⟨.slice 3, 1, 24, [.nilsl]⟩), (36, ⟨.struct [(0, 3), (1, 3), (2, 22)], 3, 40, [.int .i64 (.lit 0), .int .i64 (.lit 0), .nilsl]⟩)]
theorem T_jetsamref06_Residual_ok : TabOk Tryd.prog T_jetsamref06_Residual := tab_ok [3, 22, 36]
theorem v_jetsamref06_Residual {y0 : jetsamref06_Linear} {y1 : List Int} {r : (List Int) × Int} (h : jetsamref06_Residual y0 y1 = some r) : AVal Tryd.prog Gl 13 [e_jetsamref06_Linear y0, (e_sl 1 e_i64) y1] (.tup [(e_sl 1 e_i64) r.1, e_i64 r.2]) := by
  refine aval_of' T_jetsamref06_Residual Gl 51 Tryd.func13 T_jetsamref06_Residual_ok Tryd_mixed fun P hP _ => ?_
  unfold jetsamref06_Residual at h
  conv => cbv
  refine den_call' hP h (fun _ h => v_jetsamref06_Check h) fun r1 _ h => ?_
  conv => cbv
  refine den_br h (fun _ h => ?_) (fun _ h => ?_)
  · conv => cbv
    cases h
    exact .tup _ _ lp
  conv => cbv
  refine .mk ?_
  conv => cbv
  refine den_br h (fun _ h => ?_) (fun _ h => ?_)
  · conv => cbv
    cases h
    exact .tup _ _ lp
  conv => cbv
  refine den_cut' (r := r) jetsamref06_Residual_K1 (fun j2 => ⟨[(7, .osl 1007)], [(1007, .arr false 3 1 e_i64 j2)], []⟩) ?_ (fun j2 h => ?_)
  · conv => cbv
    refine den_loop (jetsamref06_Residual_L1 y0 y1) h (fun a3 : Int × (List Int) => ⟨[(1, .sl 1 e_i64 y1), (2, .ptr 2 0), (7, .osl 1007), (8, .int .i64 (.v a3.1))], [(2, .var [.int .i64 (.v y0.Precision), .int .i64 (.v y0.Shift), .sl 1 e_i64 y0.Coefs]), (1007, .arr false 3 1 e_i64 a3.2)], []⟩) ?_ (fun _ _ a3 x1 h hb1 hx1 => ?_)
    · intro j0 hj
      conv => cbv
      subst hj
      exact ⟨⟨.same _, .arr _ _ _ _ _ _ rfl, trivial⟩, .same _, .same _, .own _ _ _ _ _ _ rfl rfl, .int _ _ _ rfl, trivial⟩
    unfold jetsamref06_Residual_L1 at h
    conv => cbv
    refine den_br h (fun _ h => ?_) (fun _ h => ?_)
    · conv => cbv
      refine den_cut' (r := x1) (jetsamref06_Residual_K2 a3) (fun j4 => ⟨[(1, .sl 1 e_i64 y1), (2, .ptr 2 0), (7, .osl 1007), (8, .int .i64 (.v a3.1))], [(2, .var [.int .i64 (.v y0.Precision), .int .i64 (.v y0.Shift), .sl 1 e_i64 y0.Coefs]), (1007, .arr false 3 1 e_i64 j4)], []⟩) ?_ (fun j4 h => ?_)
      · conv => cbv
        refine .mk ?_
        conv => cbv
        refine den_elem h fun p5 _ h => ?_
        conv => cbv
        refine den_call' hP h (fun _ h => v_jetsamref06_may h) fun r6 _ h => ?_
        conv => cbv
        refine den_br h (fun _ h => ?_) (fun _ h => ?_)
        · conv => cbv
          replace h := den_out h hx1
          cases h
          exact .tup _ _ lp
        conv => cbv
        refine den_br h (fun _ h => ?_) (fun _ h => ?_)
        · conv => cbv
          refine .mk (some [1007]) (by kernel_rfl) ?_
          conv => cbv
          refine den_elem h fun p7 _ h => ?_
          conv => cbv
          refine .mk ?_
          conv => cbv
          refine den_sub h fun l8 _ h => ?_
          conv => cbv
          refine den_call' hP h (fun _ h => v_jetsamref06_Told h) fun r9 _ h => ?_
          conv => cbv
          refine .mk ?_
          conv => cbv
          refine .data ?_
          conv => cbv
          refine den_app_own e_i64 (xs := [(W (p7 - r9))]) h rfl lp fun l10 _ h => ?_
          conv => cbv
          exact den_join' h
        conv => cbv
        exact den_join' h
      unfold jetsamref06_Residual_K2 at h
      conv => cbv
      exact den_back' h hb1
    conv => cbv
    replace h := den_out h hx1
    exact den_join' h
  unfold jetsamref06_Residual_K1 at h
  conv => cbv
  cases h
  exact .tup _ _ lp
def T_jetsamref05_Head : Tab := []
theorem T_jetsamref05_Head_ok : TabOk Tryd.prog T_jetsamref05_Head := tab_ok []
theorem v_jetsamref05_Head {y0 : Int} {y1 : Int} {y2 : Int} {y3 : Int} {r : Int} (h : jetsamref05_Head y0 y1 y2 y3 = some r) : AVal Tryd.prog Gl 15 [e_i64 y0, e_i64 y1, e_i64 y2, e_i64 y3] (e_i64 r) := by
  refine aval_of' T_jetsamref05_Head Gl 50 Tryd.func15 T_jetsamref05_Head_ok Tryd_mixed fun P hP _ => ?_
  unfold jetsamref05_Head at h
  conv => cbv
  refine .mk ?_
  conv => cbv
  refine .mk ?_
  conv => cbv
  refine den_br h (fun _ h => ?_) (fun _ h => ?_)
  · conv => cbv
    cases h
    exact lp
  conv => cbv
  refine .mk ?_
  conv => cbv
  refine .mk ?_
  conv => cbv
  refine den_br h (fun _ h => ?_) (fun _ h => ?_)
  · conv => cbv
    cases h
    exact lp
  conv => cbv
  refine .mk ?_
  conv => cbv
  refine den_chk h fun h => ?_
  conv => cbv
  refine den_chk h fun h => ?_
  conv => cbv
  refine .mk ?_
  conv => cbv
  refine den_br h (fun _ h => ?_) (fun _ h => ?_)
  · conv => cbv
    cases h
    exact lp
  conv => cbv
  refine den_chk h fun h => ?_
  conv => cbv
  refine den_chk h fun h => ?_
  conv => cbv
  refine den_br h (fun _ h => ?_) (fun _ h => ?_)
  · conv => cbv
    cases h
    exact lp
  conv => cbv
  cases h
  exact lp
def T_jetsamref05_part : Tab := [(3, ⟨.int .i64, 1, 8, [.int .i64 (.lit 0)]⟩), (37, ⟨.struct [(0, 3), (1, 3), (2, 22), (3, 22)], 4, 64, [.int .i64 (.lit 0), .int .i64 (.lit 0), .nilsl, .nilsl]⟩)]
theorem T_jetsamref05_part_ok : TabOk Tryd.prog T_jetsamref05_part := tab_ok [3, 37]
theorem v_jetsamref05_part {y0 : jetsamref05_Plan} {y1 : Int} {y2 : Int} {y3 : Int} {r : Int} (h : jetsamref05_part y0 y1 y2 y3 = some r) : AVal Tryd.prog Gl 45 [e_jetsamref05_Plan y0, e_i64 y1, e_i64 y2, e_i64 y3] (e_i64 r) := by
  refine aval_of' T_jetsamref05_part Gl 18 Tryd.func45 T_jetsamref05_part_ok Tryd_mixed fun P hP _ => ?_
  unfold jetsamref05_part at h
  conv => cbv
  refine .mk ?_
  conv => cbv
  refine den_chk h fun h => ?_
  conv => cbv
  refine den_chk h fun h => ?_
  conv => cbv
  refine den_chk h fun h => ?_
  conv => cbv
  cases h
  exact lp
def T_jetsamref01_Number : Tab := [(3, ⟨.int .i64, 1, 8, [.int .i64 (.lit 0)]⟩), (22, ⟨.slice 3, 1, 24, [.nilsl]⟩)]
theorem T_jetsamref01_Number_ok : TabOk Tryd.prog T_jetsamref01_Number := tab_ok [3, 22]
theorem v_jetsamref01_Number {y0 : List Int} {y1 : Bool} {r : Int} (h : jetsamref01_Number y0 y1 = some r) : AVal Tryd.prog Gl 99 [(e_sl 1 e_i64) y0, e_bool y1] (e_i64 r) := by
  refine aval_of' T_jetsamref01_Number Gl 30 Tryd.func99 T_jetsamref01_Number_ok Tryd_mixed fun P hP _ => ?_
  unfold jetsamref01_Number at h
  conv => cbv
  refine den_cut' (r := r) jetsamref01_Number_K1 (fun j1 => ⟨[(5, .int .i64 (.v j1))], [], []⟩) ?_ (fun j1 h => ?_)
  · conv => cbv
    refine den_loop' (jetsamref01_Number_L1 y0 y1) h (fun a2 => ⟨[(0, .sl 1 e_i64 y0), (1, .bool (.v y1)), (5, .int .i64 (.v a2.1)), (6, .int .i64 (.v a2.2))], [], []⟩) (fun _ _ a2 x1 h hb1 hx1 => ?_)
    unfold jetsamref01_Number_L1 at h
    conv => cbv
    refine den_br h (fun _ h => ?_) (fun _ h => ?_)
    · conv => cbv
      refine den_cut' (r := x1) (jetsamref01_Number_K2 a2) (fun j3 => ⟨[(0, .sl 1 e_i64 y0), (1, .bool (.v y1)), (5, .int .i64 (.v j3)), (6, .int .i64 (.v a2.2))], [], []⟩) ?_ (fun j3 h => ?_)
      · conv => cbv
        refine .mk ?_
        conv => cbv
        refine den_elem h fun p4 _ h => ?_
        conv => cbv
        refine den_br h (fun _ h => ?_) (fun _ h => ?_)
        · conv => cbv
          refine den_elem h fun p5 _ h => ?_
          conv => cbv
          exact den_join' h
        conv => cbv
        exact den_join' h
      unfold jetsamref01_Number_K2 at h
      conv => cbv
      exact den_back' h hb1
    conv => cbv
    replace h := den_out h hx1
    exact den_join' h
  unfold jetsamref01_Number_K1 at h
  conv => cbv
  cases h
  exact lp
def Tx_jetsamref01_Put : Tab := [(3, ⟨.int .i64, 1, 8, [.int .i64 (.lit 0)]⟩), (22, ⟨.slice 3, 1, 24, [.nilsl]⟩)]
theorem Tx_jetsamref01_Put_ok : TabOk Tryd.prog Tx_jetsamref01_Put := tab_ok [3, 22]
theorem x_jetsamref01_Put {y0 : Int} {y1 : Int} {y2 : Bool} {r : Int × (List Int)} (h : jetsamref01_Put y0 y1 y2 = some r) : ACalls Tryd.prog Gl 89 [.nilsl, e_i64 y0, e_i64 y1, e_bool y2] [] (fun x o' => x = .tup [.osl 20000, .int .i64 (.v r.1)] ∧ o' = [(20000, .arr false 3 1 e_i64 r.2)]) := by
  refine acalls_of' Tx_jetsamref01_Put Gl 41 [] Tryd.func89 Tx_jetsamref01_Put_ok Tryd_mixed fun P hP _ => ?_
  unfold jetsamref01_Put at h
  conv => cbv
  refine .mk ?_
  conv => cbv
  refine den_br h (fun _ h => ?_) (fun _ h => ?_)
  · conv => cbv
    refine .add 9999 3 1 e_i64 rfl rfl ?_
    refine .mk [(9999, 20000, false)] [] rfl rfl ?_ ?_
    · conv => cbv
      cases h
      exact lp
    conv => cbv
    cases h
    exact .cons _ _ _ _ (.tup _ _ (.cons _ _ _ _ (.own _ _ _ _ _ _ rfl rfl) lp)) .nil
  conv => cbv
  refine den_cut' (r := r) (jetsamref01_Put_K1 y1 y2) (fun j1 => ⟨[(0, .nilsl), (2, .int .i64 (.v y1)), (3, .bool (.v y2)), (10, .osl 1010)], [(1010, .arr false 3 1 e_i64 j1)], []⟩) ?_ (fun j1 h => ?_)
  · conv => cbv
    refine den_loop (jetsamref01_Put_L1 y1 y2) h (fun a4 : Int × (List Int) => ⟨[(0, .nilsl), (2, .int .i64 (.v y1)), (3, .bool (.v y2)), (10, .osl 1010), (11, .int .i64 (.v a4.1))], [(1010, .arr false 3 1 e_i64 a4.2)], []⟩) ?_ (fun _ _ a4 x1 h hb1 hx1 => ?_)
    · intro j0 hj
      conv => cbv
      subst hj
      exact ⟨⟨.arr _ _ _ _ _ _ rfl, trivial⟩, .same _, .same _, .same _, .own _ _ _ _ _ _ rfl rfl, .int _ _ _ rfl, trivial⟩
    unfold jetsamref01_Put_L1 at h
    conv => cbv
    refine den_br h (fun _ h => ?_) (fun _ h => ?_)
    · conv => cbv
      refine .mk ?_
      conv => cbv
      refine den_chk h fun h => ?_
      conv => cbv
      refine .data ?_
      conv => cbv
      refine den_app_own e_i64 (xs := [(arD .and .i64 (shD .shr .i64 y1 a4.1) 1)]) h rfl lp fun l5 _ h => ?_
      conv => cbv
      exact den_back' h hb1
    conv => cbv
    replace h := den_out h hx1
    exact den_join' h
  unfold jetsamref01_Put_K1 at h
  conv => cbv
  refine den_lend' hP h (fun _ h => v_jetsamref01_Number h) fun r2 _ h => ?_
  conv => cbv
  refine den_br h (fun _ h => ?_) (fun _ h => ?_)
  · conv => cbv
    refine .add 9999 3 1 e_i64 rfl rfl ?_
    refine .mk [(9999, 20000, false)] [] rfl rfl ?_ ?_
    · conv => cbv
      cases h
      exact lp
    conv => cbv
    cases h
    exact .cons _ _ _ _ (.tup _ _ (.cons _ _ _ _ (.own _ _ _ _ _ _ rfl rfl) lp)) .nil
  conv => cbv
  refine den_app_nil 1008 e_i64 (xs := j1) h (News.map rfl) fun l3 _ h => ?_
  conv => cbv
  refine .mk [(1008, 20000, false)] [] rfl rfl ?_ ?_
  · conv => cbv
    cases h
    exact lp
  conv => cbv
  cases h
  exact .cons _ _ _ _ (.tup _ _ lp) .nil
def Tx_jetsamref01_Unary : Tab := [(3, ⟨.int .i64, 1, 8, [.int .i64 (.lit 0)]⟩), (22, ⟨.slice 3, 1, 24, [.nilsl]⟩)]
theorem Tx_jetsamref01_Unary_ok : TabOk Tryd.prog Tx_jetsamref01_Unary := tab_ok [3, 22]
theorem x_jetsamref01_Unary {y0 : Int} {r : Int × (List Int)} (h : jetsamref01_Unary y0 = some r) : ACalls Tryd.prog Gl 90 [.nilsl, e_i64 y0] [] (fun x o' => x = .tup [.osl 20000, .int .i64 (.v r.1)] ∧ o' = [(20000, .arr false 3 1 e_i64 r.2)]) := by
  refine acalls_of' Tx_jetsamref01_Unary Gl 25 [] Tryd.func90 Tx_jetsamref01_Unary_ok Tryd_mixed fun P hP _ => ?_
  unfold jetsamref01_Unary at h
  conv => cbv
  refine .mk ?_
  conv => cbv
  refine den_br h (fun _ h => ?_) (fun _ h => ?_)
  · conv => cbv
    refine .add 9999 3 1 e_i64 rfl rfl ?_
    refine .mk [(9999, 20000, false)] [] rfl rfl ?_ ?_
    · conv => cbv
      cases h
      exact lp
    conv => cbv
    cases h
    exact .cons _ _ _ _ (.tup _ _ (.cons _ _ _ _ (.own _ _ _ _ _ _ rfl rfl) lp)) .nil
  conv => cbv
  refine den_cut' (r := r) jetsamref01_Unary_K1 (fun j1 => ⟨[(0, .osl 1000)], [(1000, .arr false 3 1 e_i64 j1)], []⟩) ?_ (fun j1 h => ?_)
  · conv => cbv
    refine den_loop (jetsamref01_Unary_L1 y0) h (fun a3 : Int × (List Int) => ⟨[(0, .osl 1000), (1, .int .i64 (.v y0)), (6, .int .i64 (.v a3.1))], [(1000, .arr false 3 1 e_i64 a3.2)], []⟩) ?_ (fun _ _ a3 x1 h hb1 hx1 => ?_)
    · intro j0 hj
      conv => cbv
      subst hj
      exact ⟨⟨.arr _ _ _ _ _ _ rfl, trivial⟩, .own _ _ _ _ _ _ rfl rfl, .same _, .int _ _ _ rfl, trivial⟩
    unfold jetsamref01_Unary_L1 at h
    conv => cbv
    refine den_br h (fun _ h => ?_) (fun _ h => ?_)
    · conv => cbv
      refine .data ?_
      conv => cbv
      refine den_app_own e_i64 (xs := [(0 : Int)]) h rfl lp fun l4 _ h => ?_
      conv => cbv
      exact den_back' h hb1
    conv => cbv
    replace h := den_out h hx1
    exact den_join' h
  unfold jetsamref01_Unary_K1 at h
  conv => cbv
  refine .data ?_
  conv => cbv
  refine den_app_own e_i64 (xs := [(1 : Int)]) h rfl lp fun l2 _ h => ?_
  conv => cbv
  refine .mk [(1000, 20000, false)] [] rfl rfl ?_ ?_
  · conv => cbv
    cases h
    exact lp
  conv => cbv
  cases h
  exact .cons _ _ _ _ (.tup _ _ lp) .nil
def Tx_jetsamref01_Put_x2 : Tab := [(3, ⟨.int .i64, 1, 8, [.int .i64 (.lit 0)]⟩), (22, ⟨.slice 3, 1, 24, [.nilsl]⟩)]
theorem Tx_jetsamref01_Put_x2_ok : TabOk Tryd.prog Tx_jetsamref01_Put_x2 := tab_ok [3, 22]
theorem x_jetsamref01_Put_x2 {y0 : Int} {y1 : Int} {y2 : Bool} {y3 : List Int} {r : Int × (List Int)} (h : jetsamref01_Put_x2 y0 y1 y2 y3 = some r) : ACalls Tryd.prog Gl 89 [.osl 10000, e_i64 y0, e_i64 y1, e_bool y2] [(10000, .arr false 3 1 e_i64 y3)] (fun x o' => x = .tup [.osl 10000, .int .i64 (.v r.1)] ∧ o' = [(10000, .arr false 3 1 e_i64 r.2)]) := by
  refine acalls_of' Tx_jetsamref01_Put_x2 Gl 41 [] Tryd.func89 Tx_jetsamref01_Put_x2_ok Tryd_mixed fun P hP _ => ?_
  unfold jetsamref01_Put_x2 at h
  conv => cbv
  refine .mk ?_
  conv => cbv
  refine den_br h (fun _ h => ?_) (fun _ h => ?_)
  · conv => cbv
    refine .mk [(10000, 10000, false)] [] rfl rfl ?_ ?_
    · conv => cbv
      cases h
      exact lp
    conv => cbv
    cases h
    exact .cons _ _ _ _ (.tup _ _ lp) .nil
  conv => cbv
  refine den_cut' (r := r) (jetsamref01_Put_x2_K1 y1 y2 y3) (fun j1 => ⟨[(0, .osl 10000), (2, .int .i64 (.v y1)), (3, .bool (.v y2)), (10, .osl 1010)], [(1010, .arr false 3 1 e_i64 j1), (10000, .arr false 3 1 e_i64 y3)], []⟩) ?_ (fun j1 h => ?_)
  · conv => cbv
    refine den_loop (jetsamref01_Put_x2_L1 y1 y2 y3) h (fun a4 : Int × (List Int) => ⟨[(0, .osl 10000), (2, .int .i64 (.v y1)), (3, .bool (.v y2)), (10, .osl 1010), (11, .int .i64 (.v a4.1))], [(1010, .arr false 3 1 e_i64 a4.2), (10000, .arr false 3 1 e_i64 y3)], []⟩) ?_ (fun _ _ a4 x1 h hb1 hx1 => ?_)
    · intro j0 hj
      conv => cbv
      subst hj
      exact ⟨⟨.arr _ _ _ _ _ _ rfl, .same _, trivial⟩, .same _, .same _, .same _, .own _ _ _ _ _ _ rfl rfl, .int _ _ _ rfl, trivial⟩
    unfold jetsamref01_Put_x2_L1 at h
    conv => cbv
    refine den_br h (fun _ h => ?_) (fun _ h => ?_)
    · conv => cbv
      refine .mk ?_
      conv => cbv
      refine den_chk h fun h => ?_
      conv => cbv
      refine .data ?_
      conv => cbv
      refine den_app_own e_i64 (xs := [(arD .and .i64 (shD .shr .i64 y1 a4.1) 1)]) h rfl lp fun l5 _ h => ?_
      conv => cbv
      exact den_back' h hb1
    conv => cbv
    replace h := den_out h hx1
    exact den_join' h
  unfold jetsamref01_Put_x2_K1 at h
  conv => cbv
  refine den_lend' hP h (fun _ h => v_jetsamref01_Number h) fun r2 _ h => ?_
  conv => cbv
  refine den_br h (fun _ h => ?_) (fun _ h => ?_)
  · conv => cbv
    refine .mk [(10000, 10000, false)] [] rfl rfl ?_ ?_
    · conv => cbv
      cases h
      exact lp
    conv => cbv
    cases h
    exact .cons _ _ _ _ (.tup _ _ lp) .nil
  conv => cbv
  refine den_app_own e_i64 (xs := j1) h rfl (News.map rfl) fun l3 _ h => ?_
  conv => cbv
  refine .mk [(10000, 10000, false)] [] rfl rfl ?_ ?_
  · conv => cbv
    cases h
    exact lp
  conv => cbv
  cases h
  exact .cons _ _ _ _ (.tup _ _ lp) .nil
def T_jetsamref05_one : Tab := [(3, ⟨.int .i64, 1, 8, [.int .i64 (.lit 0)]⟩)]
theorem T_jetsamref05_one_ok : TabOk Tryd.prog T_jetsamref05_one := tab_ok [3]
theorem v_jetsamref05_one {y0 : Int} {y1 : Int} {y2 : Int} {r : (List Int) × Bool} (h : jetsamref05_one y0 y1 y2 = some r) : AVal Tryd.prog Gl 70 [e_i64 y0, e_i64 y1, e_i64 y2] (.tup [(e_sl 1 e_i64) r.1, e_bool r.2]) := by
  refine aval_of' T_jetsamref05_one Gl 63 Tryd.func70 T_jetsamref05_one_ok Tryd_mixed fun P hP _ => ?_
  unfold jetsamref05_one at h
  conv => cbv
  refine .mk ?_
  conv => cbv
  refine den_br h (fun _ h => ?_) (fun _ h => ?_)
  · conv => cbv
    cases h
    exact .tup _ _ lp
  conv => cbv
  refine den_br h (fun _ h => ?_) (fun _ h => ?_)
  · conv => cbv
    refine .mk ?_
    conv => cbv
    refine den_own' (ho := True.intro) [(1008, 20000, true)] [] hP h (fun _ h => x_jetsamref01_Put h) fun r1 _ h => ?_
    conv => cbv
    cases h
    exact .tup _ _ lp
  conv => cbv
  refine den_cut' (r := r) (jetsamref05_one_K1 y1) (fun j2 => ⟨[(1, .int .i64 (.v y1)), (8, .nilsl), (10, .int .i64 (.v j2))], [], []⟩) ?_ (fun j2 h => ?_)
  · conv => cbv
    refine den_br h (fun _ h => ?_) (fun _ h => ?_)
    · conv => cbv
      exact den_join' h
    conv => cbv
    exact den_join' h
  unfold jetsamref05_one_K1 at h
  conv => cbv
  refine den_chk h fun h => ?_
  conv => cbv
  refine den_br h (fun _ h => ?_) (fun _ h => ?_)
  · conv => cbv
    cases h
    exact .tup _ _ lp
  conv => cbv
  refine den_chk h fun h => ?_
  conv => cbv
  refine .mk ?_
  conv => cbv
  obtain ⟨t3, ht3, h⟩ := den_let h
  refine den_own' (ho := True.intro) [(1008, 20000, true)] [] hP h (fun _ h => x_jetsamref01_Unary h) fun r4 _ h => ?_
  conv => cbv
  refine den_br h (fun _ h => ?_) (fun _ h => ?_)
  · conv => cbv
    cases h
    exact .tup _ _ lp
  conv => cbv
  refine .mk ?_
  conv => cbv
  refine den_chk h fun h => ?_
  conv => cbv
  refine den_chk h fun h => ?_
  conv => cbv
  refine .mk ?_
  conv => cbv
  obtain ⟨t5, ht5, h⟩ := den_let h
  refine den_own' [(1008, 10000, true)] [] hP h (fun _ h => x_jetsamref01_Put_x2 h) fun r6 _ h => ?_
  conv => cbv
  cases h
  exact .tup _ _ lp
def T_jetsamref05_cost : Tab := [(3, ⟨.int .i64, 1, 8, [.int .i64 (.lit 0)]⟩), (22, ⟨.slice 3, 1, 24, [.nilsl]⟩)]
theorem T_jetsamref05_cost_ok : TabOk Tryd.prog T_jetsamref05_cost := tab_ok [3, 22]
theorem v_jetsamref05_cost {y0 : List Int} {y1 : Int} {r : Int × Int} (h : jetsamref05_cost y0 y1 = some r) : AVal Tryd.prog Gl 46 [(e_sl 1 e_i64) y0, e_i64 y1] (.tup [e_i64 r.1, e_i64 r.2]) := by
  refine aval_of' T_jetsamref05_cost Gl 65 Tryd.func46 T_jetsamref05_cost_ok Tryd_mixed fun P hP _ => ?_
  unfold jetsamref05_cost at h
  conv => cbv
  refine den_cut' (r := r) (jetsamref05_cost_K1 y0 y1) (fun j1 => ⟨[(0, .sl 1 e_i64 y0), (1, .int .i64 (.v y1)), (6, .int .i64 (.v j1.1)), (7, .int .i64 (.v j1.2))], [], []⟩) ?_ (fun j1 h => ?_)
  · conv => cbv
    refine den_loop' (jetsamref05_cost_L1 y0 y1) h (fun a2 => ⟨[(0, .sl 1 e_i64 y0), (1, .int .i64 (.v y1)), (6, .int .i64 (.v a2.1)), (7, .int .i64 (.v a2.2.1)), (8, .int .i64 (.v a2.2.2))], [], []⟩) (fun _ _ a2 x1 h hb1 hx1 => ?_)
    unfold jetsamref05_cost_L1 at h
    conv => cbv
    refine den_br h (fun _ h => ?_) (fun _ h => ?_)
    · conv => cbv
      refine den_cut' (r := x1) (jetsamref05_cost_K2 a2) (fun j3 => ⟨[(0, .sl 1 e_i64 y0), (1, .int .i64 (.v y1)), (6, .int .i64 (.v j3.1)), (7, .int .i64 (.v j3.2)), (8, .int .i64 (.v a2.2.2))], [], []⟩) ?_ (fun j3 h => ?_)
      · conv => cbv
        refine den_br h (fun _ h => ?_) (fun _ h => ?_)
        · conv => cbv
          refine den_cut' (r := x1) (jetsamref05_cost_K3 a2) (fun j4 => ⟨[(0, .sl 1 e_i64 y0), (1, .int .i64 (.v y1)), (6, .int .i64 (.v a2.1)), (7, .int .i64 (.v a2.2.1)), (8, .int .i64 (.v a2.2.2)), (9, .int .i64 (.v j4))], [], []⟩) ?_ (fun j4 h => ?_)
          · conv => cbv
            refine den_loop' (jetsamref05_cost_L2 y0 a2) h (fun a5 => ⟨[(0, .sl 1 e_i64 y0), (1, .int .i64 (.v y1)), (6, .int .i64 (.v a2.1)), (7, .int .i64 (.v a2.2.1)), (8, .int .i64 (.v a2.2.2)), (9, .int .i64 (.v a5))], [], []⟩) (fun _ _ a5 x2 h hb2 hx2 => ?_)
            unfold jetsamref05_cost_L2 at h
            conv => cbv
            refine den_br h (fun _ h => ?_) (fun _ h => ?_)
            · conv => cbv
              refine den_elem h fun p6 _ h => ?_
              conv => cbv
              refine .mk ?_
              conv => cbv
              refine den_call' hP h (fun _ h => v_jetsamref05_one h) fun r7 _ h => ?_
              conv => cbv
              refine den_br h (fun _ h => ?_) (fun _ h => ?_)
              · conv => cbv
                replace h := den_out h hx2
                exact den_join' h
              conv => cbv
              exact den_back' h hb2
            conv => cbv
            replace h := den_out h hx2
            exact den_join' h
          unfold jetsamref05_cost_K3 at h
          conv => cbv
          exact den_join' h
        conv => cbv
        refine den_elem h fun p8 _ h => ?_
        conv => cbv
        refine .mk ?_
        conv => cbv
        refine den_call' hP h (fun _ h => v_jetsamref05_one h) fun r9 _ h => ?_
        conv => cbv
        refine den_br h (fun _ h => ?_) (fun _ h => ?_)
        · conv => cbv
          replace h := den_out h hx1
          cases h
          exact .tup _ _ lp
        conv => cbv
        exact den_join' h
      unfold jetsamref05_cost_K2 at h
      conv => cbv
      exact den_back' h hb1
    conv => cbv
    replace h := den_out h hx1
    exact den_join' h
  unfold jetsamref05_cost_K1 at h
  conv => cbv
  refine den_br h (fun _ h => ?_) (fun _ h => ?_)
  · conv => cbv
    cases h
    exact .tup _ _ lp
  conv => cbv
  refine den_br h (fun _ h => ?_) (fun _ h => ?_)
  · conv => cbv
    cases h
    exact .tup _ _ lp
  conv => cbv
  refine .mk ?_
  conv => cbv
  cases h
  exact .tup _ _ lp
def T_jetsamref05_Least : Tab := [(3, ⟨.int .i64, 1, 8, [.int .i64 (.lit 0)]⟩), (22, ⟨.slice 3, 1, 24, [.nilsl]⟩), (37, ⟨.struct [(0, 3), (1, 3), (2, 22), (3, 22)], 4, 64, [.int .i64 (.lit 0), .int .i64 (.lit 0), .nilsl, .nilsl]⟩)]
theorem T_jetsamref05_Least_ok : TabOk Tryd.prog T_jetsamref05_Least := tab_ok [3, 22, 37]
theorem v_jetsamref05_Least {y0 : Int} {y1 : Int} {y2 : Int} {y3 : List Int} {r : Int × jetsamref05_Plan} (h : jetsamref05_Least y0 y1 y2 y3 = some r) : AVal Tryd.prog Gl 16 [e_i64 y0, e_i64 y1, e_i64 y2, (e_sl 1 e_i64) y3] (.tup [e_i64 r.1, e_jetsamref05_Plan r.2]) := by
  refine aval_of' T_jetsamref05_Least Gl 114 Tryd.func16 T_jetsamref05_Least_ok Tryd_mixed fun P hP _ => ?_
  unfold jetsamref05_Least at h
  conv => cbv
  refine den_cut' (r := r) (jetsamref05_Least_K1 y0 y1) (fun j1 => ⟨[(9, .ptr 9 0), (11, .ptr 11 0), (12, .int .i64 (.v j1.1))], [(9, .var [.int .i64 (.lit 0), .int .i64 (.lit 0), .nilsl, .nilsl]), (11, .var [.int .i64 (.v y0), .int .i64 (.v y1), .osl 2134, .osl 2135]), (2134, .arr false 3 1 e_i64 j1.2.1), (2135, .arr false 3 1 e_i64 j1.2.2)], []⟩) ?_ (fun j1 h => ?_)
  · conv => cbv
    refine den_loop (jetsamref05_Least_L1 y0 y1 y2 y3) h (fun a2 : Int × Int × Int × (List Int) × (List Int) => ⟨[(0, .int .i64 (.v y0)), (1, .int .i64 (.v y1)), (2, .int .i64 (.v y2)), (3, .sl 1 e_i64 y3), (9, .ptr 9 0), (10, .int .i64 (.ar .add .i64 (.len y3) (.v y2))), (11, .ptr 11 0), (12, .int .i64 (.v a2.1)), (13, .int .i64 (.v a2.2.1)), (14, .int .i64 (.v a2.2.2.1))], [(9, .var [.int .i64 (.lit 0), .int .i64 (.lit 0), .nilsl, .nilsl]), (11, .var [.int .i64 (.v y0), .int .i64 (.v y1), .osl 2134, .osl 2135]), (2134, .arr false 3 1 e_i64 a2.2.2.2.1), (2135, .arr false 3 1 e_i64 a2.2.2.2.2)], []⟩) ?_ (fun _ _ a2 x1 h hb1 hx1 => ?_)
    · intro j0 hj
      conv => cbv
      subst hj
      exact ⟨⟨.same _, .var _ _ (.cons _ _ _ _ (.same _) (.cons _ _ _ _ (.same _) (.cons _ _ _ _ (.own _ _ _ _ _ _ rfl rfl) (.cons _ _ _ _ (.own _ _ _ _ _ _ rfl rfl) .nil)))), .arr _ _ _ _ _ _ rfl, .arr _ _ _ _ _ _ rfl, trivial⟩, .same _, .same _, .same _, .same _, .same _, .same _, .same _, .int _ _ _ rfl, .int _ _ _ rfl, .int _ _ _ rfl, trivial⟩
    unfold jetsamref05_Least_L1 at h
    conv => cbv
    refine den_chk h fun h => ?_
    conv => cbv
    refine den_br h (fun _ h => ?_) (fun _ h => ?_)
    · conv => cbv
      refine den_cut' (r := x1) (jetsamref05_Least_K2 a2) (fun j3 => ⟨[(0, .int .i64 (.v y0)), (1, .int .i64 (.v y1)), (2, .int .i64 (.v y2)), (3, .sl 1 e_i64 y3), (9, .ptr 9 0), (10, .int .i64 (.ar .add .i64 (.len y3) (.v y2))), (11, .ptr 11 0), (12, .int .i64 (.v j3.1)), (13, .int .i64 (.v j3.2.1)), (14, .int .i64 (.v a2.2.2.1))], [(9, .var [.int .i64 (.lit 0), .int .i64 (.lit 0), .nilsl, .nilsl]), (11, .var [.int .i64 (.v y0), .int .i64 (.v y1), .osl 2134, .osl 2135]), (2134, .arr false 3 1 e_i64 j3.2.2.1), (2135, .arr false 3 1 e_i64 j3.2.2.2)], []⟩) ?_ (fun j3 h => ?_)
      · conv => cbv
        refine den_cut' (r := x1) (jetsamref05_Least_K3 y0 y1 a2) (fun j4 => ⟨[(0, .int .i64 (.v y0)), (1, .int .i64 (.v y1)), (2, .int .i64 (.v y2)), (3, .sl 1 e_i64 y3), (9, .ptr 9 0), (10, .int .i64 (.ar .add .i64 (.len y3) (.v y2))), (11, .ptr 11 0), (12, .int .i64 (.v a2.1)), (13, .int .i64 (.v j4.1)), (14, .int .i64 (.v a2.2.2.1)), (15, .osl 1015)], [(9, .var [.int .i64 (.lit 0), .int .i64 (.lit 0), .nilsl, .nilsl]), (11, .var [.int .i64 (.v y0), .int .i64 (.v y1), .osl 2134, .osl 2135]), (1015, .arr false 3 1 e_i64 j4.2), (2134, .arr false 3 1 e_i64 a2.2.2.2.1), (2135, .arr false 3 1 e_i64 a2.2.2.2.2)], []⟩) ?_ (fun j4 h => ?_)
        · conv => cbv
          refine den_loop (jetsamref05_Least_L3 y0 y1 y2 y3 a2) h (fun a12 : Int × (List Int) => ⟨[(0, .int .i64 (.v y0)), (1, .int .i64 (.v y1)), (2, .int .i64 (.v y2)), (3, .sl 1 e_i64 y3), (9, .ptr 9 0), (10, .int .i64 (.ar .add .i64 (.len y3) (.v y2))), (11, .ptr 11 0), (12, .int .i64 (.v a2.1)), (13, .int .i64 (.v a12.1)), (14, .int .i64 (.v a2.2.2.1)), (15, .osl 1015)], [(9, .var [.int .i64 (.lit 0), .int .i64 (.lit 0), .nilsl, .nilsl]), (11, .var [.int .i64 (.v y0), .int .i64 (.v y1), .osl 2134, .osl 2135]), (1015, .arr false 3 1 e_i64 a12.2), (2134, .arr false 3 1 e_i64 a2.2.2.2.1), (2135, .arr false 3 1 e_i64 a2.2.2.2.2)], []⟩) ?_ (fun _ _ a12 x2 h hb2 hx2 => ?_)
          · intro j0 hj
            conv => cbv
            subst hj
            exact ⟨⟨.same _, .same _, .arr _ _ _ _ _ _ rfl, .same _, .same _, trivial⟩, .same _, .same _, .same _, .same _, .same _, .same _, .same _, .same _, .int _ _ _ rfl, .same _, .own _ _ _ _ _ _ rfl rfl, trivial⟩
          unfold jetsamref05_Least_L3 at h
          conv => cbv
          refine .mk ?_
          conv => cbv
          refine .mk ?_
          conv => cbv
          refine den_br h (fun _ h => ?_) (fun _ h => ?_)
          · conv => cbv
            refine den_lend' hP h (fun _ h => v_jetsamref05_part h) fun r13 _ h => ?_
            conv => cbv
            refine den_br h (fun _ h => ?_) (fun _ h => ?_)
            · conv => cbv
              refine .mk ?_
              conv => cbv
              refine den_elem h fun p14 _ h => ?_
              conv => cbv
              refine .data ?_
              conv => cbv
              refine den_app_own e_i64 (xs := [p14]) h rfl lp fun l15 _ h => ?_
              conv => cbv
              exact den_back' h hb2
            conv => cbv
            replace h := den_out h hx2
            exact den_join' h
          conv => cbv
          replace h := den_out h hx2
          exact den_join' h
        unfold jetsamref05_Least_K3 at h
        conv => cbv
        refine den_cut' (r := x1) (jetsamref05_Least_K4 y0 y1 a2 j4) (fun j5 => ⟨[(0, .int .i64 (.v y0)), (1, .int .i64 (.v y1)), (2, .int .i64 (.v y2)), (3, .sl 1 e_i64 y3), (9, .ptr 9 0), (10, .int .i64 (.ar .add .i64 (.len y3) (.v y2))), (11, .ptr 11 0), (12, .int .i64 (.v a2.1)), (13, .int .i64 (.v j4.1)), (14, .int .i64 (.v a2.2.2.1)), (16, .int .i64 (.v j5.1)), (17, .int .i64 (.v j5.2.1)), (18, .int .i64 (.v j5.2.2))], [(9, .var [.int .i64 (.lit 0), .int .i64 (.lit 0), .nilsl, .nilsl]), (11, .var [.int .i64 (.v y0), .int .i64 (.v y1), .osl 2134, .osl 2135]), (2134, .arr false 3 1 e_i64 a2.2.2.2.1), (2135, .arr false 3 1 e_i64 a2.2.2.2.2)], []⟩) ?_ (fun j5 h => ?_)
        · conv => cbv
          refine den_loop' (jetsamref05_Least_L2 y0 y1 a2 j4) h (fun a8 => ⟨[(0, .int .i64 (.v y0)), (1, .int .i64 (.v y1)), (2, .int .i64 (.v y2)), (3, .sl 1 e_i64 y3), (9, .ptr 9 0), (10, .int .i64 (.ar .add .i64 (.len y3) (.v y2))), (11, .ptr 11 0), (12, .int .i64 (.v a2.1)), (13, .int .i64 (.v j4.1)), (14, .int .i64 (.v a2.2.2.1)), (15, .osl 1015), (16, .int .i64 (.v a8.1)), (17, .int .i64 (.v a8.2.1)), (18, .int .i64 (.v a8.2.2.1)), (19, .int .i64 (.v a8.2.2.2))], [(9, .var [.int .i64 (.lit 0), .int .i64 (.lit 0), .nilsl, .nilsl]), (11, .var [.int .i64 (.v y0), .int .i64 (.v y1), .osl 2134, .osl 2135]), (1015, .arr false 3 1 e_i64 j4.2), (2134, .arr false 3 1 e_i64 a2.2.2.2.1), (2135, .arr false 3 1 e_i64 a2.2.2.2.2)], []⟩) (fun _ _ a8 x2 h hb2 hx2 => ?_)
          unfold jetsamref05_Least_L2 at h
          conv => cbv
          refine den_br h (fun _ h => ?_) (fun _ h => ?_)
          · conv => cbv
            refine den_cut' (r := x2) (jetsamref05_Least_K5 a8) (fun j9 => ⟨[(0, .int .i64 (.v y0)), (1, .int .i64 (.v y1)), (2, .int .i64 (.v y2)), (3, .sl 1 e_i64 y3), (9, .ptr 9 0), (10, .int .i64 (.ar .add .i64 (.len y3) (.v y2))), (11, .ptr 11 0), (12, .int .i64 (.v a2.1)), (13, .int .i64 (.v j4.1)), (14, .int .i64 (.v a2.2.2.1)), (15, .osl 1015), (16, .int .i64 (.v j9.1)), (17, .int .i64 (.v j9.2.1)), (18, .int .i64 (.v j9.2.2)), (19, .int .i64 (.v a8.2.2.2))], [(9, .var [.int .i64 (.lit 0), .int .i64 (.lit 0), .nilsl, .nilsl]), (11, .var [.int .i64 (.v y0), .int .i64 (.v y1), .osl 2134, .osl 2135]), (1015, .arr false 3 1 e_i64 j4.2), (2134, .arr false 3 1 e_i64 a2.2.2.2.1), (2135, .arr false 3 1 e_i64 a2.2.2.2.2)], []⟩) ?_ (fun j9 h => ?_)
            · conv => cbv
              refine den_cut' (r := x2) (jetsamref05_Least_K6 j4 a8) (fun j10 => ⟨[(0, .int .i64 (.v y0)), (1, .int .i64 (.v y1)), (2, .int .i64 (.v y2)), (3, .sl 1 e_i64 y3), (9, .ptr 9 0), (10, .int .i64 (.ar .add .i64 (.len y3) (.v y2))), (11, .ptr 11 0), (12, .int .i64 (.v a2.1)), (13, .int .i64 (.v j4.1)), (14, .int .i64 (.v a2.2.2.1)), (15, .osl 1015), (16, .int .i64 (.v a8.1)), (17, .int .i64 (.v a8.2.1)), (18, .int .i64 (.v a8.2.2.1)), (19, .int .i64 (.v a8.2.2.2)), (20, .int .i64 (.v j10))], [(9, .var [.int .i64 (.lit 0), .int .i64 (.lit 0), .nilsl, .nilsl]), (11, .var [.int .i64 (.v y0), .int .i64 (.v y1), .osl 2134, .osl 2135]), (1015, .arr false 3 1 e_i64 j4.2), (2134, .arr false 3 1 e_i64 a2.2.2.2.1), (2135, .arr false 3 1 e_i64 a2.2.2.2.2)], []⟩) ?_ (fun j10 h => ?_)
              · conv => cbv
                refine den_br h (fun _ h => ?_) (fun _ h => ?_)
                · conv => cbv
                  exact den_join' h
                conv => cbv
                exact den_join' h
              unfold jetsamref05_Least_K6 at h
              conv => cbv
              refine .mk ?_
              conv => cbv
              refine den_lend' hP h (fun _ h => v_jetsamref05_cost h) fun r11 _ h => ?_
              conv => cbv
              refine .mk ?_
              conv => cbv
              refine den_br h (fun _ h => ?_) (fun _ h => ?_)
              · conv => cbv
                exact den_join' h
              conv => cbv
              exact den_join' h
            unfold jetsamref05_Least_K5 at h
            conv => cbv
            exact den_back' h hb2
          conv => cbv
          replace h := den_out h hx2
          exact den_join' h
        unfold jetsamref05_Least_K4 at h
        conv => cbv
        refine den_br h (fun _ h => ?_) (fun _ h => ?_)
        · conv => cbv
          refine .dup ?_
          conv => cbv
          refine .mk (some [9]) (by kernel_rfl) ?_
          conv => cbv
          replace h := den_out h hx1
          cases h
          exact .tup _ _ lp
        conv => cbv
        refine .mk ?_
        conv => cbv
        refine .data ?_
        conv => cbv
        refine den_app_own e_i64 (xs := [j5.2.1]) h rfl lp fun l6 _ h => ?_
        conv => cbv
        refine .mk ?_
        conv => cbv
        refine .data ?_
        conv => cbv
        refine den_app_own e_i64 (xs := [j5.2.2]) h rfl lp fun l7 _ h => ?_
        conv => cbv
        refine .mk ?_
        conv => cbv
        exact den_join' h
      unfold jetsamref05_Least_K2 at h
      conv => cbv
      exact den_back' h hb1
    conv => cbv
    replace h := den_out h hx1
    exact den_join' h
  unfold jetsamref05_Least_K1 at h
  conv => cbv
  refine .dup ?_
  conv => cbv
  refine .mk (some [9]) (by kernel_rfl) ?_
  conv => cbv
  cases h
  exact lp
def T_jetsamlaw06_Plain : Tab := [(3, ⟨.int .i64, 1, 8, [.int .i64 (.lit 0)]⟩), (22, ⟨.slice 3, 1, 24, [.nilsl]⟩), (25, ⟨.struct [(0, 3), (1, 3), (2, 22)], 3, 40, [.int .i64 (.lit 0), .int .i64 (.lit 0), .nilsl]⟩), (36, ⟨.struct [(0, 3), (1, 3), (2, 22)], 3, 40, [.int .i64 (.lit 0), .int .i64 (.lit 0), .nilsl]⟩)]
theorem T_jetsamlaw06_Plain_ok : TabOk Tryd.prog T_jetsamlaw06_Plain := tab_ok [3, 22, 25, 36]
theorem v_jetsamlaw06_Plain {y0 : predict_Linear} {r : jetsamref06_Linear} (h : jetsamlaw06_Plain y0 = some r) : AVal Tryd.prog Gl 47 [e_predict_Linear y0] (e_jetsamref06_Linear r) := by
  refine aval_of' T_jetsamlaw06_Plain Gl 10 Tryd.func47 T_jetsamlaw06_Plain_ok Tryd_mixed fun P hP _ => ?_
  unfold jetsamlaw06_Plain at h
  conv => cbv
  refine .mk ?_
  conv => cbv
  cases h
  exact lp
def T_jetsamlaw05_Plain : Tab := [(3, ⟨.int .i64, 1, 8, [.int .i64 (.lit 0)]⟩), (22, ⟨.slice 3, 1, 24, [.nilsl]⟩), (27, ⟨.struct [(0, 3), (1, 3), (2, 22), (3, 22)], 4, 64, [.int .i64 (.lit 0), .int .i64 (.lit 0), .nilsl, .nilsl]⟩), (37, ⟨.struct [(0, 3), (1, 3), (2, 22), (3, 22)], 4, 64, [.int .i64 (.lit 0), .int .i64 (.lit 0), .nilsl, .nilsl]⟩)]
theorem T_jetsamlaw05_Plain_ok : TabOk Tryd.prog T_jetsamlaw05_Plain := tab_ok [3, 22, 27, 37]
theorem v_jetsamlaw05_Plain {y0 : rice_Plan} {r : jetsamref05_Plan} (h : jetsamlaw05_Plain y0 = some r) : AVal Tryd.prog Gl 48 [e_rice_Plan y0] (e_jetsamref05_Plan r) := by
  refine aval_of' T_jetsamlaw05_Plain Gl 12 Tryd.func48 T_jetsamlaw05_Plain_ok Tryd_mixed fun P hP _ => ?_
  unfold jetsamlaw05_Plain at h
  conv => cbv
  refine .mk ?_
  conv => cbv
  cases h
  exact lp
def T_jetsamlaw07_Plain : Tab := [(3, ⟨.int .i64, 1, 8, [.int .i64 (.lit 0)]⟩), (25, ⟨.struct [(0, 3), (1, 3), (2, 22)], 3, 40, [.int .i64 (.lit 0), .int .i64 (.lit 0), .nilsl]⟩), (27, ⟨.struct [(0, 3), (1, 3), (2, 22), (3, 22)], 4, 64, [.int .i64 (.lit 0), .int .i64 (.lit 0), .nilsl, .nilsl]⟩), (29, ⟨.struct [(0, 3), (1, 3), (2, 3), (3, 25), (6, 27)], 10, 128, [.int .i64 (.lit 0), .int .i64 (.lit 0), .int .i64 (.lit 0), .int .i64 (.lit 0), .int .i64 (.lit 0), .nilsl, .int .i64 (.lit 0), .int .i64 (.lit 0), .nilsl, .nilsl]⟩), (36, ⟨.struct [(0, 3), (1, 3), (2, 22)], 3, 40, [.int .i64 (.lit 0), .int .i64 (.lit 0), .nilsl]⟩), (37, ⟨.struct [(0, 3), (1, 3), (2, 22), (3, 22)], 4, 64, [.int .i64 (.lit 0), .int .i64 (.lit 0), .nilsl, .nilsl]⟩), (39, ⟨.struct [(0, 3), (1, 3), (2, 3), (3, 36), (6, 37)], 10, 128, [.int .i64 (.lit 0), .int .i64 (.lit 0), .int .i64 (.lit 0), .int .i64 (.lit 0), .int .i64 (.lit 0), .nilsl, .int .i64 (.lit 0), .int .i64 (.lit 0), .nilsl, .nilsl]⟩)]
theorem T_jetsamlaw07_Plain_ok : TabOk Tryd.prog T_jetsamlaw07_Plain := tab_ok [3, 25, 27, 29, 36, 37, 39]
theorem v_jetsamlaw07_Plain {y0 : subframe_Plan} {r : jetsamref07_Plan} (h : jetsamlaw07_Plain y0 = some r) : AVal Tryd.prog Gl 17 [e_subframe_Plan y0] (e_jetsamref07_Plan r) := by
  refine aval_of' T_jetsamlaw07_Plain Gl 16 Tryd.func17 T_jetsamlaw07_Plain_ok Tryd_mixed fun P hP _ => ?_
  unfold jetsamlaw07_Plain at h
  conv => cbv
  refine .dup ?_
  conv => cbv
  refine .mk (some [2]) (by kernel_rfl) ?_
  conv => cbv
  refine .mk ?_
  conv => cbv
  refine den_call' hP h (fun _ h => v_jetsamlaw06_Plain h) fun r1 _ h => ?_
  conv => cbv
  refine .mk ?_
  conv => cbv
  refine den_call' hP h (fun _ h => v_jetsamlaw05_Plain h) fun r2 _ h => ?_
  conv => cbv
  cases h
  exact lp
def T_jetsamlaw07_SubframeBest : Tab := [(3, ⟨.int .i64, 1, 8, [.int .i64 (.lit 0)]⟩), (22, ⟨.slice 3, 1, 24, [.nilsl]⟩), (29, ⟨.struct [(0, 3), (1, 3), (2, 3), (3, 25), (6, 27)], 10, 128, [.int .i64 (.lit 0), .int .i64 (.lit 0), .int .i64 (.lit 0), .int .i64 (.lit 0), .int .i64 (.lit 0), .nilsl, .int .i64 (.lit 0), .int .i64 (.lit 0), .nilsl, .nilsl]⟩), (36, ⟨.struct [(0, 3), (1, 3), (2, 22)], 3, 40, [.int .i64 (.lit 0), .int .i64 (.lit 0), .nilsl]⟩), (37, ⟨.struct [(0, 3), (1, 3), (2, 22), (3, 22)], 4, 64, [.int .i64 (.lit 0), .int .i64 (.lit 0), .nilsl, .nilsl]⟩), (39, ⟨.struct [(0, 3), (1, 3), (2, 3), (3, 36), (6, 37)], 10, 128, [.int .i64 (.lit 0), .int .i64 (.lit 0), .int .i64 (.lit 0), .int .i64 (.lit 0), .int .i64 (.lit 0), .nilsl, .int .i64 (.lit 0), .int .i64 (.lit 0), .nilsl, .nilsl]⟩)]
theorem T_jetsamlaw07_SubframeBest_ok : TabOk Tryd.prog T_jetsamlaw07_SubframeBest := tab_ok [3, 22, 29, 36, 37, 39]
set_option maxHeartbeats 2000000 in
theorem v_jetsamlaw07_SubframeBest {y0 : Int} {y1 : Int} {y2 : List Int} {r : Bool} (h : jetsamlaw07_SubframeBest y0 y1 y2 = some r) : AVal Tryd.prog Gl 3 [e_i64 y0, e_i64 y1, (e_sl 1 e_i64) y2] (e_bool r) := by
  refine aval_of' T_jetsamlaw07_SubframeBest Gl 290 Tryd.func3 T_jetsamlaw07_SubframeBest_ok Tryd_mixed fun P hP _ => ?_
  unfold jetsamlaw07_SubframeBest at h
  conv => cbv
  refine .mk ?_
  conv => cbv
  refine den_br h (fun _ h => ?_) (fun _ h => ?_)
  · conv => cbv
    refine den_call' hP h (fun _ h => v_jetsamlaw07_awake h) fun r1 _ h => ?_
    conv => cbv
    cases h
    exact lp
  conv => cbv
  refine den_cut' (r := r) (jetsamlaw07_SubframeBest_K1 y0) (fun j2 => ⟨[(0, .int .i64 (.v y0)), (7, .osl 1007)], [(1007, .arr false 3 1 e_i64 j2)], []⟩) ?_ (fun j2 h => ?_)
  · conv => cbv
    refine den_loop (jetsamlaw07_SubframeBest_L4 y0 y1 y2) h (fun a32 : Int × (List Int) => ⟨[(0, .int .i64 (.v y0)), (1, .int .i64 (.v y1)), (2, .sl 1 e_i64 y2), (7, .osl 1007), (8, .int .i64 (.v a32.1))], [(1007, .arr false 3 1 e_i64 a32.2)], []⟩) ?_ (fun _ _ a32 x1 h hb1 hx1 => ?_)
    · intro j0 hj
      conv => cbv
      subst hj
      exact ⟨⟨.arr _ _ _ _ _ _ rfl, trivial⟩, .same _, .same _, .same _, .own _ _ _ _ _ _ rfl rfl, .int _ _ _ rfl, trivial⟩
    unfold jetsamlaw07_SubframeBest_L4 at h
    conv => cbv
    refine den_br h (fun _ h => ?_) (fun _ h => ?_)
    · conv => cbv
      refine .mk ?_
      conv => cbv
      refine den_elem h fun p33 _ h => ?_
      conv => cbv
      refine .mk ?_
      conv => cbv
      refine den_br h (fun _ h => ?_) (fun _ h => ?_)
      · conv => cbv
        refine den_call' hP h (fun _ h => v_jetsamlaw07_awake h) fun r34 _ h => ?_
        conv => cbv
        replace h := den_out h hx1
        cases h
        exact lp
      conv => cbv
      refine den_elem h fun p35 _ h => ?_
      conv => cbv
      refine den_br h (fun _ h => ?_) (fun _ h => ?_)
      · conv => cbv
        refine den_call' hP h (fun _ h => v_jetsamlaw07_awake h) fun r36 _ h => ?_
        conv => cbv
        replace h := den_out h hx1
        cases h
        exact lp
      conv => cbv
      refine .mk (some [1007]) (by kernel_rfl) ?_
      conv => cbv
      refine den_elem h fun p37 _ h => ?_
      conv => cbv
      refine .mk ?_
      conv => cbv
      refine den_chk h fun h => ?_
      conv => cbv
      refine .data ?_
      conv => cbv
      refine den_app_own e_i64 (xs := [(W (p37 * (shD .shl .i64 1 y1)))]) h rfl lp fun l38 _ h => ?_
      conv => cbv
      exact den_back' h hb1
    conv => cbv
    replace h := den_out h hx1
    exact den_join' h
  unfold jetsamlaw07_SubframeBest_K1 at h
  conv => cbv
  refine den_call' hP h (fun _ h => v_subframe_Best h) fun r3 _ h => ?_
  conv => cbv
  refine .mk ?_
  conv => cbv
  refine .mk ?_
  conv => cbv
  refine den_br h (fun _ h => ?_) (fun _ h => ?_)
  · conv => cbv
    refine den_br h (fun _ h => ?_) (fun _ h => ?_)
    · conv => cbv
      refine .mk ?_
      conv => cbv
      refine den_call' hP h (fun _ h => v_jetsamlaw07_Same h) fun r4 _ h => ?_
      conv => cbv
      refine den_br h (fun _ h => ?_) (fun _ h => ?_)
      · conv => cbv
        refine den_call' hP h (fun _ h => v_jetsamlaw07_awake h) fun r5 _ h => ?_
        conv => cbv
        cases h
        exact lp
      conv => cbv
      cases h
      exact lp
    conv => cbv
    refine .mk ?_
    conv => cbv
    cases h
    exact lp
  conv => cbv
  refine den_call' hP h (fun _ h => v_jetsamref07_Fits h) fun r6 _ h => ?_
  conv => cbv
  refine den_br h (fun _ h => ?_) (fun _ h => ?_)
  · conv => cbv
    refine den_br h (fun _ h => ?_) (fun _ h => ?_)
    · conv => cbv
      refine .mk ?_
      conv => cbv
      refine den_call' hP h (fun _ h => v_jetsamlaw07_Same h) fun r7 _ h => ?_
      conv => cbv
      refine den_br h (fun _ h => ?_) (fun _ h => ?_)
      · conv => cbv
        refine den_call' hP h (fun _ h => v_jetsamlaw07_awake h) fun r8 _ h => ?_
        conv => cbv
        cases h
        exact lp
      conv => cbv
      cases h
      exact lp
    conv => cbv
    refine .mk ?_
    conv => cbv
    cases h
    exact lp
  conv => cbv
  refine den_call' hP h (fun _ h => v_jetsamref07_Wasted h) fun r9 _ h => ?_
  conv => cbv
  refine .mk ?_
  conv => cbv
  refine den_call' hP h (fun _ h => v_jetsamref07_Less h) fun r10 _ h => ?_
  conv => cbv
  refine den_cut' (r := r) (jetsamlaw07_SubframeBest_K2 y0 r3 r9 r10) (fun j11 => ⟨[(0, .int .i64 (.v y0)), (9, .ptr 9 0), (10, .int .i64 (.v r3.2)), (11, .ptr 11 0), (12, .sl 1 e_i64 r10.1), (14, .bool (.v j11))], [(9, .var [.int .i64 (.v r3.1.Kind), .int .i64 (.v r3.1.Order), .int .i64 (.v r3.1.Wasted), .int .i64 (.v r3.1.Linear.Precision), .int .i64 (.v r3.1.Linear.Shift), .sl 1 e_i64 r3.1.Linear.Coefs, .int .i64 (.v r3.1.Rice.Method), .int .i64 (.v r3.1.Rice.Order), .sl 1 e_i64 r3.1.Rice.Params, .sl 1 e_i64 r3.1.Rice.Bits]), (11, .var [.int .i64 (.lit 1), .int .i64 (.lit 0), .int .i64 (.v r9), .int .i64 (.lit 0), .int .i64 (.lit 0), .nilsl, .int .i64 (.lit 0), .int .i64 (.lit 0), .nilsl, .nilsl])], []⟩) ?_ (fun j11 h => ?_)
  · conv => cbv
    refine den_loop' (jetsamlaw07_SubframeBest_L3 y0 r3 r9 r10) h (fun a29 => ⟨[(0, .int .i64 (.v y0)), (9, .ptr 9 0), (10, .int .i64 (.v r3.2)), (11, .ptr 11 0), (12, .sl 1 e_i64 r10.1), (14, .bool (.v a29.1)), (15, .int .i64 (.v a29.2))], [(9, .var [.int .i64 (.v r3.1.Kind), .int .i64 (.v r3.1.Order), .int .i64 (.v r3.1.Wasted), .int .i64 (.v r3.1.Linear.Precision), .int .i64 (.v r3.1.Linear.Shift), .sl 1 e_i64 r3.1.Linear.Coefs, .int .i64 (.v r3.1.Rice.Method), .int .i64 (.v r3.1.Rice.Order), .sl 1 e_i64 r3.1.Rice.Params, .sl 1 e_i64 r3.1.Rice.Bits]), (11, .var [.int .i64 (.lit 1), .int .i64 (.lit 0), .int .i64 (.v r9), .int .i64 (.lit 0), .int .i64 (.lit 0), .nilsl, .int .i64 (.lit 0), .int .i64 (.lit 0), .nilsl, .nilsl])], []⟩) (fun _ _ a29 x1 h hb1 hx1 => ?_)
    unfold jetsamlaw07_SubframeBest_L3 at h
    conv => cbv
    refine den_br h (fun _ h => ?_) (fun _ h => ?_)
    · conv => cbv
      refine .mk (some []) (by kernel_rfl) ?_
      conv => cbv
      refine .mk ?_
      conv => cbv
      refine den_br h (fun _ h => ?_) (fun _ h => ?_)
      · conv => cbv
        refine den_elem h fun p30 _ h => ?_
        conv => cbv
        refine den_elem h fun p31 _ h => ?_
        conv => cbv
        refine .mk ?_
        conv => cbv
        exact den_back' h hb1
      conv => cbv
      refine .mk ?_
      conv => cbv
      exact den_back' h hb1
    conv => cbv
    replace h := den_out h hx1
    exact den_join' h
  unfold jetsamlaw07_SubframeBest_K2 at h
  conv => cbv
  refine den_br h (fun _ h => ?_) (fun _ h => ?_)
  · conv => cbv
    refine .mk ?_
    conv => cbv
    refine den_br h (fun _ h => ?_) (fun _ h => ?_)
    · conv => cbv
      refine .mk ?_
      conv => cbv
      refine den_call' hP h (fun _ h => v_jetsamlaw07_Same h) fun r12 _ h => ?_
      conv => cbv
      refine den_br h (fun _ h => ?_) (fun _ h => ?_)
      · conv => cbv
        refine den_call' hP h (fun _ h => v_jetsamlaw07_awake h) fun r13 _ h => ?_
        conv => cbv
        cases h
        exact lp
      conv => cbv
      cases h
      exact lp
    conv => cbv
    refine .mk ?_
    conv => cbv
    cases h
    exact lp
  conv => cbv
  refine den_call' hP h (fun _ h => v_jetsamref06_Best h) fun r14 _ h => ?_
  conv => cbv
  refine den_call' hP h (fun _ h => v_jetsamref07_Coefs h) fun r15 _ h => ?_
  conv => cbv
  refine .mk ?_
  conv => cbv
  refine den_call' hP h (fun _ h => v_jetsamref06_Residual h) fun r16 _ h => ?_
  conv => cbv
  refine den_cut' (r := r) (jetsamlaw07_SubframeBest_K3 y0 r3 r9 r10 r14) (fun j17 => ⟨[(0, .int .i64 (.v y0)), (9, .ptr 9 0), (10, .int .i64 (.v r3.2)), (11, .ptr 11 0), (12, .sl 1 e_i64 r10.1), (16, .int .i64 (.v r14)), (19, .int .i64 (.v j17.1)), (20, .ptr 20 0)], [(9, .var [.int .i64 (.v r3.1.Kind), .int .i64 (.v r3.1.Order), .int .i64 (.v r3.1.Wasted), .int .i64 (.v r3.1.Linear.Precision), .int .i64 (.v r3.1.Linear.Shift), .sl 1 e_i64 r3.1.Linear.Coefs, .int .i64 (.v r3.1.Rice.Method), .int .i64 (.v r3.1.Rice.Order), .sl 1 e_i64 r3.1.Rice.Params, .sl 1 e_i64 r3.1.Rice.Bits]), (11, .var [.int .i64 (.lit 1), .int .i64 (.lit 0), .int .i64 (.v r9), .int .i64 (.lit 0), .int .i64 (.lit 0), .nilsl, .int .i64 (.lit 0), .int .i64 (.lit 0), .nilsl, .nilsl]), (20, .var [.int .i64 (.v j17.2.1), .int .i64 (.v j17.2.2.1), .sl 1 e_i64 j17.2.2.2.1, .sl 1 e_i64 j17.2.2.2.2])], []⟩) ?_ (fun j17 h => ?_)
  · conv => cbv
    refine den_loop' (jetsamlaw07_SubframeBest_L1 y0 r3 r9 r10 r14 r16) h (fun a23 => ⟨[(0, .int .i64 (.v y0)), (9, .ptr 9 0), (10, .int .i64 (.v r3.2)), (11, .ptr 11 0), (12, .sl 1 e_i64 r10.1), (16, .int .i64 (.v r14)), (17, .sl 1 e_i64 r16.1), (19, .int .i64 (.v a23.1)), (20, .ptr 20 0), (21, .int .i64 (.v a23.2.1))], [(9, .var [.int .i64 (.v r3.1.Kind), .int .i64 (.v r3.1.Order), .int .i64 (.v r3.1.Wasted), .int .i64 (.v r3.1.Linear.Precision), .int .i64 (.v r3.1.Linear.Shift), .sl 1 e_i64 r3.1.Linear.Coefs, .int .i64 (.v r3.1.Rice.Method), .int .i64 (.v r3.1.Rice.Order), .sl 1 e_i64 r3.1.Rice.Params, .sl 1 e_i64 r3.1.Rice.Bits]), (11, .var [.int .i64 (.lit 1), .int .i64 (.lit 0), .int .i64 (.v r9), .int .i64 (.lit 0), .int .i64 (.lit 0), .nilsl, .int .i64 (.lit 0), .int .i64 (.lit 0), .nilsl, .nilsl]), (20, .var [.int .i64 (.v a23.2.2.1), .int .i64 (.v a23.2.2.2.1), .sl 1 e_i64 a23.2.2.2.2.1, .sl 1 e_i64 a23.2.2.2.2.2])], []⟩) (fun _ _ a23 x1 h hb1 hx1 => ?_)
    unfold jetsamlaw07_SubframeBest_L1 at h
    conv => cbv
    refine den_br h (fun _ h => ?_) (fun _ h => ?_)
    · conv => cbv
      refine den_cut' (r := x1) (jetsamlaw07_SubframeBest_K5 a23) (fun j24 => ⟨[(0, .int .i64 (.v y0)), (9, .ptr 9 0), (10, .int .i64 (.v r3.2)), (11, .ptr 11 0), (12, .sl 1 e_i64 r10.1), (16, .int .i64 (.v r14)), (17, .sl 1 e_i64 r16.1), (19, .int .i64 (.v j24.1)), (20, .ptr 20 0), (21, .int .i64 (.v a23.2.1))], [(9, .var [.int .i64 (.v r3.1.Kind), .int .i64 (.v r3.1.Order), .int .i64 (.v r3.1.Wasted), .int .i64 (.v r3.1.Linear.Precision), .int .i64 (.v r3.1.Linear.Shift), .sl 1 e_i64 r3.1.Linear.Coefs, .int .i64 (.v r3.1.Rice.Method), .int .i64 (.v r3.1.Rice.Order), .sl 1 e_i64 r3.1.Rice.Params, .sl 1 e_i64 r3.1.Rice.Bits]), (11, .var [.int .i64 (.lit 1), .int .i64 (.lit 0), .int .i64 (.v r9), .int .i64 (.lit 0), .int .i64 (.lit 0), .nilsl, .int .i64 (.lit 0), .int .i64 (.lit 0), .nilsl, .nilsl]), (20, .var [.int .i64 (.v j24.2.1), .int .i64 (.v j24.2.2.1), .sl 1 e_i64 j24.2.2.2.1, .sl 1 e_i64 j24.2.2.2.2])], []⟩) ?_ (fun j24 h => ?_)
      · conv => cbv
        refine den_loop' (jetsamlaw07_SubframeBest_L2 r10 r14 r16 a23) h (fun a25 => ⟨[(0, .int .i64 (.v y0)), (9, .ptr 9 0), (10, .int .i64 (.v r3.2)), (11, .ptr 11 0), (12, .sl 1 e_i64 r10.1), (16, .int .i64 (.v r14)), (17, .sl 1 e_i64 r16.1), (19, .int .i64 (.v a25.1)), (20, .ptr 20 0), (21, .int .i64 (.v a23.2.1)), (22, .int .i64 (.v a25.2.1))], [(9, .var [.int .i64 (.v r3.1.Kind), .int .i64 (.v r3.1.Order), .int .i64 (.v r3.1.Wasted), .int .i64 (.v r3.1.Linear.Precision), .int .i64 (.v r3.1.Linear.Shift), .sl 1 e_i64 r3.1.Linear.Coefs, .int .i64 (.v r3.1.Rice.Method), .int .i64 (.v r3.1.Rice.Order), .sl 1 e_i64 r3.1.Rice.Params, .sl 1 e_i64 r3.1.Rice.Bits]), (11, .var [.int .i64 (.lit 1), .int .i64 (.lit 0), .int .i64 (.v r9), .int .i64 (.lit 0), .int .i64 (.lit 0), .nilsl, .int .i64 (.lit 0), .int .i64 (.lit 0), .nilsl, .nilsl]), (20, .var [.int .i64 (.v a25.2.2.1), .int .i64 (.v a25.2.2.2.1), .sl 1 e_i64 a25.2.2.2.2.1, .sl 1 e_i64 a25.2.2.2.2.2])], []⟩) (fun _ _ a25 x2 h hb2 hx2 => ?_)
        unfold jetsamlaw07_SubframeBest_L2 at h
        conv => cbv
        refine den_br h (fun _ h => ?_) (fun _ h => ?_)
        · conv => cbv
          refine den_cut' (r := x2) (jetsamlaw07_SubframeBest_K6 a25) (fun j26 => ⟨[(0, .int .i64 (.v y0)), (9, .ptr 9 0), (10, .int .i64 (.v r3.2)), (11, .ptr 11 0), (12, .sl 1 e_i64 r10.1), (16, .int .i64 (.v r14)), (17, .sl 1 e_i64 r16.1), (19, .int .i64 (.v j26.1)), (20, .ptr 20 0), (21, .int .i64 (.v a23.2.1)), (22, .int .i64 (.v a25.2.1))], [(9, .var [.int .i64 (.v r3.1.Kind), .int .i64 (.v r3.1.Order), .int .i64 (.v r3.1.Wasted), .int .i64 (.v r3.1.Linear.Precision), .int .i64 (.v r3.1.Linear.Shift), .sl 1 e_i64 r3.1.Linear.Coefs, .int .i64 (.v r3.1.Rice.Method), .int .i64 (.v r3.1.Rice.Order), .sl 1 e_i64 r3.1.Rice.Params, .sl 1 e_i64 r3.1.Rice.Bits]), (11, .var [.int .i64 (.lit 1), .int .i64 (.lit 0), .int .i64 (.v r9), .int .i64 (.lit 0), .int .i64 (.lit 0), .nilsl, .int .i64 (.lit 0), .int .i64 (.lit 0), .nilsl, .nilsl]), (20, .var [.int .i64 (.v j26.2.1), .int .i64 (.v j26.2.2.1), .sl 1 e_i64 j26.2.2.2.1, .sl 1 e_i64 j26.2.2.2.2])], []⟩) ?_ (fun j26 h => ?_)
          · conv => cbv
            refine .mk ?_
            conv => cbv
            refine den_call' hP h (fun _ h => v_jetsamref05_Head h) fun r27 _ h => ?_
            conv => cbv
            refine den_br h (fun _ h => ?_) (fun _ h => ?_)
            · conv => cbv
              exact den_join' h
            conv => cbv
            refine den_call' hP h (fun _ h => v_jetsamref05_Least h) fun r28 _ h => ?_
            conv => cbv
            refine .mk ?_
            conv => cbv
            refine .mk ?_
            conv => cbv
            refine den_br h (fun _ h => ?_) (fun _ h => ?_)
            · conv => cbv
              exact den_join' h
            conv => cbv
            exact den_join' h
          unfold jetsamlaw07_SubframeBest_K6 at h
          conv => cbv
          exact den_back' h hb2
        conv => cbv
        replace h := den_out h hx2
        exact den_join' h
      unfold jetsamlaw07_SubframeBest_K5 at h
      conv => cbv
      exact den_back' h hb1
    conv => cbv
    replace h := den_out h hx1
    exact den_join' h
  unfold jetsamlaw07_SubframeBest_K3 at h
  conv => cbv
  refine den_cut' (r := r) (jetsamlaw07_SubframeBest_K4 r3 r9) (fun j18 => ⟨[(9, .ptr 9 0), (10, .int .i64 (.v r3.2)), (11, .ptr 11 0)], [(9, .var [.int .i64 (.v r3.1.Kind), .int .i64 (.v r3.1.Order), .int .i64 (.v r3.1.Wasted), .int .i64 (.v r3.1.Linear.Precision), .int .i64 (.v r3.1.Linear.Shift), .sl 1 e_i64 r3.1.Linear.Coefs, .int .i64 (.v r3.1.Rice.Method), .int .i64 (.v r3.1.Rice.Order), .sl 1 e_i64 r3.1.Rice.Params, .sl 1 e_i64 r3.1.Rice.Bits]), (11, .var [.int .i64 (.v j18.1), .int .i64 (.v j18.2.1), .int .i64 (.v r9), .int .i64 (.lit 0), .int .i64 (.lit 0), .nilsl, .int .i64 (.v j18.2.2.1), .int .i64 (.v j18.2.2.2.1), .sl 1 e_i64 j18.2.2.2.2.1, .sl 1 e_i64 j18.2.2.2.2.2])], []⟩) ?_ (fun j18 h => ?_)
  · conv => cbv
    refine .mk ?_
    conv => cbv
    refine .mk ?_
    conv => cbv
    refine den_br h (fun _ h => ?_) (fun _ h => ?_)
    · conv => cbv
      refine .mk ?_
      conv => cbv
      exact den_join' h
    conv => cbv
    exact den_join' h
  unfold jetsamlaw07_SubframeBest_K4 at h
  conv => cbv
  refine den_call' hP h (fun _ h => v_jetsamlaw07_Plain h) fun r19 _ h => ?_
  conv => cbv
  refine .mk ?_
  conv => cbv
  refine .mk ?_
  conv => cbv
  refine .mk ?_
  conv => cbv
  refine .mk ?_
  conv => cbv
  refine .mk ?_
  conv => cbv
  refine .mk ?_
  conv => cbv
  refine .mk ?_
  conv => cbv
  refine .mk ?_
  conv => cbv
  refine .mk ?_
  conv => cbv
  refine den_br h (fun _ h => ?_) (fun _ h => ?_)
  · conv => cbv
    refine den_call' hP h (fun _ h => v_jetsamlaw01_Ints h) fun r20 _ h => ?_
    conv => cbv
    refine .mk ?_
    conv => cbv
    refine .mk ?_
    conv => cbv
    refine den_br h (fun _ h => ?_) (fun _ h => ?_)
    · conv => cbv
      refine den_call' hP h (fun _ h => v_jetsamlaw01_Ints h) fun r21 _ h => ?_
      conv => cbv
      refine den_br h (fun _ h => ?_) (fun _ h => ?_)
      · conv => cbv
        refine den_call' hP h (fun _ h => v_jetsamlaw07_awake h) fun r22 _ h => ?_
        conv => cbv
        cases h
        exact lp
      conv => cbv
      cases h
      exact lp
    conv => cbv
    cases h
    exact lp
  conv => cbv
  refine .mk ?_
  conv => cbv
  refine .mk ?_
  conv => cbv
  cases h
  exact lp
end Go.Proofs.YtpjbfealfmjddaaDoor
