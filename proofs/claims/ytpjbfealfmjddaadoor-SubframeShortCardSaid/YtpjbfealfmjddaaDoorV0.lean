/- That the code answers so, printed by a program. -/
import Derived.Test.YtpjbfealfmjddaaDoorF1
import Derived.Test.YtpjbfealfmjddaaDoorIt
import Derived.Test.YtpjbfealfmjddaaDoorProg
import Derived.Test.YtpjbfealfmjddaaDoorVm
import Derived.Test.YtpjbfealfmjddaaDoorV1
set_option maxRecDepth 4000
set_option linter.all false
set_option linter.unusedVariables false
set_option linter.unusedSimpArgs false
namespace Go.Proofs.YtpjbfealfmjddaaDoor
open Go Go.Vg
def T_jetsamlaw07_Few : Tab := [(3, ⟨.int .i64, 1, 8, [.int .i64 (.lit 0)]⟩), (22, ⟨.slice 3, 1, 24, [.nilsl]⟩), (25, ⟨.struct [(0, 3), (1, 3), (2, 22)], 3, 40, [.int .i64 (.lit 0), .int .i64 (.lit 0), .nilsl]⟩), (27, ⟨.struct [(0, 3), (1, 3), (2, 22), (3, 22)], 4, 64, [.int .i64 (.lit 0), .int .i64 (.lit 0), .nilsl, .nilsl]⟩), (29, ⟨.struct [(0, 3), (1, 3), (2, 3), (3, 25), (6, 27)], 10, 128, [.int .i64 (.lit 0), .int .i64 (.lit 0), .int .i64 (.lit 0), .int .i64 (.lit 0), .int .i64 (.lit 0), .nilsl, .int .i64 (.lit 0), .int .i64 (.lit 0), .nilsl, .nilsl]⟩)]
theorem T_jetsamlaw07_Few_ok : TabOk Tryd.prog T_jetsamlaw07_Few := tab_ok [3, 22, 25, 27, 29]
theorem v_jetsamlaw07_Few {y0 : subframe_Plan} {y1 : List Int} {r : Bool} (h : jetsamlaw07_Few y0 y1 = some r) : AVal Tryd.prog Gl 19 [e_subframe_Plan y0, (e_sl 1 e_i64) y1] (e_bool r) := by
  refine aval_of' T_jetsamlaw07_Few Gl 55 Tryd.func19 T_jetsamlaw07_Few_ok Tryd_mixed fun P hP _ => ?_
  unfold jetsamlaw07_Few at h
  conv => cbv
  refine .mk ?_
  conv => cbv
  refine .mk ?_
  conv => cbv
  refine .mk ?_
  conv => cbv
  refine .mk ?_
  conv => cbv
  refine den_br h (fun _ h => ?_) (fun _ h => ?_)
  · conv => cbv
    cases h
    exact lp
  conv => cbv
  refine den_cut' (r := r) jetsamlaw07_Few_K1 (fun j1 => ⟨[], [], []⟩) ?_ (fun j1 h => ?_)
  · conv => cbv
    refine den_loop' (jetsamlaw07_Few_L1 y0 y1) h (fun a2 => ⟨[(1, .sl 1 e_i64 y1), (2, .ptr 2 0), (5, .int .i64 (.v a2))], [(2, .var [.int .i64 (.v y0.Kind), .int .i64 (.v y0.Order), .int .i64 (.v y0.Wasted), .int .i64 (.v y0.Linear.Precision), .int .i64 (.v y0.Linear.Shift), .sl 1 e_i64 y0.Linear.Coefs, .int .i64 (.v y0.Rice.Method), .int .i64 (.v y0.Rice.Order), .sl 1 e_i64 y0.Rice.Params, .sl 1 e_i64 y0.Rice.Bits])], []⟩) (fun _ _ a2 x1 h hb1 hx1 => ?_)
    unfold jetsamlaw07_Few_L1 at h
    conv => cbv
    refine den_br h (fun _ h => ?_) (fun _ h => ?_)
    · conv => cbv
      refine .mk ?_
      conv => cbv
      refine .mk ?_
      conv => cbv
      refine den_br h (fun _ h => ?_) (fun _ h => ?_)
      · conv => cbv
        refine den_elem h fun p3 _ h => ?_
        conv => cbv
        refine .mk ?_
        conv => cbv
        refine den_br h (fun _ h => ?_) (fun _ h => ?_)
        · conv => cbv
          replace h := den_out h hx1
          cases h
          exact lp
        conv => cbv
        refine den_elem h fun p4 _ h => ?_
        conv => cbv
        refine den_br h (fun _ h => ?_) (fun _ h => ?_)
        · conv => cbv
          replace h := den_out h hx1
          cases h
          exact lp
        conv => cbv
        exact den_back' h hb1
      conv => cbv
      refine .mk ?_
      conv => cbv
      exact den_back' h hb1
    conv => cbv
    replace h := den_out h hx1
    exact den_join' h
  unfold jetsamlaw07_Few_K1 at h
  conv => cbv
  cases h
  exact lp
def T_jetsamlaw01_Bytes : Tab := [(5, ⟨.int .u8, 1, 1, [.int .u8 (.lit 0)]⟩), (59, ⟨.slice 5, 1, 24, [.nilsl]⟩)]
theorem T_jetsamlaw01_Bytes_ok : TabOk Tryd.prog T_jetsamlaw01_Bytes := tab_ok [5, 59]
theorem v_jetsamlaw01_Bytes {y0 : List Int} {y1 : List Int} {r : Bool} (h : jetsamlaw01_Bytes y0 y1 = some r) : AVal Tryd.prog Gl 29 [(e_sl 1 e_u8) y0, (e_sl 1 e_u8) y1] (e_bool r) := by
  refine aval_of' T_jetsamlaw01_Bytes Gl 26 Tryd.func29 T_jetsamlaw01_Bytes_ok Tryd_mixed fun P hP _ => ?_
  unfold jetsamlaw01_Bytes at h
  conv => cbv
  refine den_br h (fun _ h => ?_) (fun _ h => ?_)
  · conv => cbv
    cases h
    exact lp
  conv => cbv
  refine den_cut' (r := r) jetsamlaw01_Bytes_K1 (fun j1 => ⟨[], [], []⟩) ?_ (fun j1 h => ?_)
  · conv => cbv
    refine den_loop' (jetsamlaw01_Bytes_L1 y0 y1) h (fun a2 => ⟨[(0, .sl 1 e_u8 y0), (1, .sl 1 e_u8 y1), (5, .int .i64 (.v a2))], [], []⟩) (fun _ _ a2 x1 h hb1 hx1 => ?_)
    unfold jetsamlaw01_Bytes_L1 at h
    conv => cbv
    refine den_br h (fun _ h => ?_) (fun _ h => ?_)
    · conv => cbv
      refine .dup ?_
      conv => cbv
      refine .mk (some []) (by kernel_rfl) ?_
      conv => cbv
      refine den_elem h fun p3 _ h => ?_
      conv => cbv
      refine .mk ?_
      conv => cbv
      refine den_elem h fun p4 _ h => ?_
      conv => cbv
      refine den_br h (fun _ h => ?_) (fun _ h => ?_)
      · conv => cbv
        replace h := den_out h hx1
        cases h
        exact lp
      conv => cbv
      exact den_back' h hb1
    conv => cbv
    replace h := den_out h hx1
    exact den_join' h
  unfold jetsamlaw01_Bytes_K1 at h
  conv => cbv
  cases h
  exact lp
def T_jetsamlaw07_awake : Tab := [(3, ⟨.int .i64, 1, 8, [.int .i64 (.lit 0)]⟩), (5, ⟨.int .u8, 1, 1, [.int .u8 (.lit 0)]⟩), (22, ⟨.slice 3, 1, 24, [.nilsl]⟩), (29, ⟨.struct [(0, 3), (1, 3), (2, 3), (3, 25), (6, 27)], 10, 128, [.int .i64 (.lit 0), .int .i64 (.lit 0), .int .i64 (.lit 0), .int .i64 (.lit 0), .int .i64 (.lit 0), .nilsl, .int .i64 (.lit 0), .int .i64 (.lit 0), .nilsl, .nilsl]⟩), (52, ⟨.ptr 90, 1, 8, [.nilptr]⟩), (59, ⟨.slice 5, 1, 24, [.nilsl]⟩)]
theorem T_jetsamlaw07_awake_ok : TabOk Tryd.prog T_jetsamlaw07_awake := tab_ok [3, 5, 22, 29, 52, 59]
theorem v_jetsamlaw07_awake {r : Bool} (h : jetsamlaw07_awake = some r) : AVal Tryd.prog Gl 6 [] (e_bool r) := by
  refine aval_of' T_jetsamlaw07_awake Gl 44 Tryd.func6 T_jetsamlaw07_awake_ok Tryd_mixed fun P hP _ => ?_
  unfold jetsamlaw07_awake at h
  conv => cbv
  refine .data ?_
  conv => cbv
  refine den_call' hP h (fun _ h => v_subframe_Best h) fun r1 _ h => ?_
  conv => cbv
  refine .mk ?_
  conv => cbv
  refine den_own' (ho := True.intro) [(10, 20000, true), (1010, 20001, true)] [] hP h (fun _ h => x_bits_NewWriter h) fun r2 _ h => ?_
  conv => cbv
  refine .data ?_
  conv => cbv
  refine den_own' [(10, 10000, false), (1010, 10001, true)] [] hP h (fun _ h => x_subframe_Write h) fun r3 _ h => ?_
  conv => cbv
  refine .mk ?_
  conv => cbv
  refine .mk ?_
  conv => cbv
  refine .mk ?_
  conv => cbv
  refine den_br h (fun _ h => ?_) (fun _ h => ?_)
  · conv => cbv
    refine den_own' [(10, 10000, false), (1010, 10001, true)] [] hP h (fun _ h => x_bits_Writer_Len h) fun r4 _ h => ?_
    conv => cbv
    refine .mk ?_
    conv => cbv
    refine den_br h (fun _ h => ?_) (fun _ h => ?_)
    · conv => cbv
      refine den_own' [(10, 10000, false), (1010, 10001, true)] [] hP h (fun _ h => x_bits_Writer_Bytes h) fun r5 _ h => ?_
      conv => cbv
      refine .data ?_
      conv => cbv
      refine den_call' hP h (fun _ h => v_jetsamlaw01_Bytes h) fun r6 _ h => ?_
      conv => cbv
      cases h
      exact lp
    conv => cbv
    cases h
    exact lp
  conv => cbv
  refine .mk ?_
  conv => cbv
  cases h
  exact lp
def T_jetsamlaw07_SubframeShort : Tab := [(3, ⟨.int .i64, 1, 8, [.int .i64 (.lit 0)]⟩), (5, ⟨.int .u8, 1, 1, [.int .u8 (.lit 0)]⟩), (22, ⟨.slice 3, 1, 24, [.nilsl]⟩), (29, ⟨.struct [(0, 3), (1, 3), (2, 3), (3, 25), (6, 27)], 10, 128, [.int .i64 (.lit 0), .int .i64 (.lit 0), .int .i64 (.lit 0), .int .i64 (.lit 0), .int .i64 (.lit 0), .nilsl, .int .i64 (.lit 0), .int .i64 (.lit 0), .nilsl, .nilsl]⟩), (52, ⟨.ptr 90, 1, 8, [.nilptr]⟩)]
theorem T_jetsamlaw07_SubframeShort_ok : TabOk Tryd.prog T_jetsamlaw07_SubframeShort := tab_ok [3, 5, 22, 29, 52]
theorem v_jetsamlaw07_SubframeShort {y0 : Int} {y1 : List Int} {r : Bool} (h : jetsamlaw07_SubframeShort y0 y1 = some r) : AVal Tryd.prog Gl 4 [e_i64 y0, (e_sl 1 e_i64) y1] (e_bool r) := by
  refine aval_of' T_jetsamlaw07_SubframeShort Gl 107 Tryd.func4 T_jetsamlaw07_SubframeShort_ok Tryd_mixed fun P hP _ => ?_
  unfold jetsamlaw07_SubframeShort at h
  conv => cbv
  refine den_call' hP h (fun _ h => v_jetsamlaw07_Few h) fun r1 _ h => ?_
  conv => cbv
  refine .mk ?_
  conv => cbv
  refine den_br h (fun _ h => ?_) (fun _ h => ?_)
  · conv => cbv
    refine den_call' hP h (fun _ h => v_jetsamlaw07_awake h) fun r2 _ h => ?_
    conv => cbv
    cases h
    exact lp
  conv => cbv
  refine den_cut' (r := r) (jetsamlaw07_SubframeShort_K1 y0 y1) (fun j3 => ⟨[(0, .int .i64 (.v y0)), (1, .sl 1 e_i64 y1)], [], []⟩) ?_ (fun j3 h => ?_)
  · conv => cbv
    refine den_loop' (jetsamlaw07_SubframeShort_L2 y0 y1) h (fun a15 => ⟨[(0, .int .i64 (.v y0)), (1, .sl 1 e_i64 y1), (5, .int .i64 (.v a15))], [], []⟩) (fun _ _ a15 x1 h hb1 hx1 => ?_)
    unfold jetsamlaw07_SubframeShort_L2 at h
    conv => cbv
    refine den_br h (fun _ h => ?_) (fun _ h => ?_)
    · conv => cbv
      refine .mk ?_
      conv => cbv
      refine den_elem h fun p16 _ h => ?_
      conv => cbv
      refine .mk ?_
      conv => cbv
      refine den_br h (fun _ h => ?_) (fun _ h => ?_)
      · conv => cbv
        refine den_call' hP h (fun _ h => v_jetsamlaw07_awake h) fun r17 _ h => ?_
        conv => cbv
        replace h := den_out h hx1
        cases h
        exact lp
      conv => cbv
      refine den_elem h fun p18 _ h => ?_
      conv => cbv
      refine den_br h (fun _ h => ?_) (fun _ h => ?_)
      · conv => cbv
        refine den_call' hP h (fun _ h => v_jetsamlaw07_awake h) fun r19 _ h => ?_
        conv => cbv
        replace h := den_out h hx1
        cases h
        exact lp
      conv => cbv
      exact den_back' h hb1
    conv => cbv
    replace h := den_out h hx1
    exact den_join' h
  unfold jetsamlaw07_SubframeShort_K1 at h
  conv => cbv
  refine den_call' hP h (fun _ h => v_subframe_Best h) fun r4 _ h => ?_
  conv => cbv
  refine .mk ?_
  conv => cbv
  refine den_br h (fun _ h => ?_) (fun _ h => ?_)
  · conv => cbv
    refine .mk ?_
    conv => cbv
    refine den_br h (fun _ h => ?_) (fun _ h => ?_)
    · conv => cbv
      refine den_call' hP h (fun _ h => v_jetsamlaw07_awake h) fun r5 _ h => ?_
      conv => cbv
      cases h
      exact lp
    conv => cbv
    cases h
    exact lp
  conv => cbv
  refine den_own' (ho := True.intro) [(58, 20000, true), (1058, 20001, true)] [] hP h (fun _ h => x_bits_NewWriter h) fun r6 _ h => ?_
  conv => cbv
  refine .mk ?_
  conv => cbv
  refine den_own' [(58, 10000, false), (1058, 10001, true)] [] hP h (fun _ h => x_subframe_Write h) fun r7 _ h => ?_
  conv => cbv
  refine den_br h (fun _ h => ?_) (fun _ h => ?_)
  · conv => cbv
    cases h
    exact lp
  conv => cbv
  refine den_cut' (r := r) jetsamlaw07_SubframeShort_K2 (fun j8 => ⟨[], [], []⟩) ?_ (fun j8 h => ?_)
  · conv => cbv
    refine den_loop' (jetsamlaw07_SubframeShort_L1 y0 y1 r4 r7) h (fun a10 => ⟨[(0, .int .i64 (.v y0)), (1, .sl 1 e_i64 y1), (6, .ptr 6 0), (8, .ptr 58 0), (9, .int .i64 (.v a10))], [(6, .var [.int .i64 (.v r4.1.Kind), .int .i64 (.v r4.1.Order), .int .i64 (.v r4.1.Wasted), .int .i64 (.v r4.1.Linear.Precision), .int .i64 (.v r4.1.Linear.Shift), .sl 1 e_i64 r4.1.Linear.Coefs, .int .i64 (.v r4.1.Rice.Method), .int .i64 (.v r4.1.Rice.Order), .sl 1 e_i64 r4.1.Rice.Params, .sl 1 e_i64 r4.1.Rice.Bits]), (58, .var [.int .i64 (.v r7.2.1), .osl 1058]), (1058, .arr false 5 1 e_u8 r7.2.2)], []⟩) (fun _ _ a10 x1 h hb1 hx1 => ?_)
    unfold jetsamlaw07_SubframeShort_L1 at h
    conv => cbv
    refine den_br h (fun _ h => ?_) (fun _ h => ?_)
    · conv => cbv
      refine den_own' (ho := True.intro) [(72, 20000, true), (1072, 20001, true)] [] hP h (fun _ h => x_bits_NewWriter h) fun r11 _ h => ?_
      conv => cbv
      refine .mk ?_
      conv => cbv
      refine den_own' [(72, 10000, false), (1072, 10001, true)] [] hP h (fun _ h => x_subframe_Write h) fun r12 _ h => ?_
      conv => cbv
      refine .mk ?_
      conv => cbv
      refine .mk ?_
      conv => cbv
      refine den_br h (fun _ h => ?_) (fun _ h => ?_)
      · conv => cbv
        refine den_own' [(58, 10000, false), (1058, 10001, true)] [] hP h (fun _ h => x_bits_Writer_Len h) fun r13 _ h => ?_
        conv => cbv
        refine den_own' [(72, 10000, false), (1072, 10001, true)] [] hP h (fun _ h => x_bits_Writer_Len h) fun r14 _ h => ?_
        conv => cbv
        refine .mk ?_
        conv => cbv
        refine .mk ?_
        conv => cbv
        refine den_br h (fun _ h => ?_) (fun _ h => ?_)
        · conv => cbv
          replace h := den_out h hx1
          cases h
          exact lp
        conv => cbv
        exact den_back' h hb1
      conv => cbv
      refine .mk ?_
      conv => cbv
      refine .mk ?_
      conv => cbv
      exact den_back' h hb1
    conv => cbv
    replace h := den_out h hx1
    exact den_join' h
  unfold jetsamlaw07_SubframeShort_K2 at h
  conv => cbv
  refine den_call' hP h (fun _ h => v_jetsamlaw07_awake h) fun r9 _ h => ?_
  conv => cbv
  cases h
  exact lp
end Go.Proofs.YtpjbfealfmjddaaDoor
