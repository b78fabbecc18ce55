/- That the code answers so, printed by a program. -/
import Derived.Test.YtpjbfealfmjddaaGreatDoorF1
import Derived.Test.YtpjbfealfmjddaaGreatDoorIt
import Derived.Test.YtpjbfealfmjddaaGreatDoorProg
import Derived.Test.YtpjbfealfmjddaaGreatDoorVm
set_option maxRecDepth 4000
set_option linter.all false
set_option linter.unusedVariables false
set_option linter.unusedSimpArgs false
namespace Go.Proofs.YtpjbfealfmjddaaGreatDoor
open Go Go.Vg
def T_slices_Clone_sint_int : Tab := [(3, ⟨.int .i64, 1, 8, [.int .i64 (.lit 0)]⟩), (30, ⟨.slice 3, 1, 24, [.nilsl]⟩)]
theorem T_slices_Clone_sint_int_ok : TabOk Tryz.prog T_slices_Clone_sint_int := tab_ok [3, 30]
theorem v_slices_Clone_sint_int {y0 : List Int} {r : List Int} (h : slices_Clone_sint_int y0 = some r) : AVal Tryz.prog Gl 83 [(e_sl 1 e_i64) y0] ((e_sl 1 e_i64) r) := by
  refine aval_of' T_slices_Clone_sint_int Gl 8 Tryz.func83 T_slices_Clone_sint_int_ok Tryz_mixed fun P hP _ => ?_
  unfold slices_Clone_sint_int at h
  conv => cbv
  refine den_nil h (fun h hl => ?_) (fun h => ?_)
  · replace h : (some ([] : List Int)) = some r := by
      simp only [hl] at h
      simpa [app] using h
    conv => cbv
    cases h
    exact lp
  · conv => cbv
    refine .own e_i64 ?_
    conv => cbv
    refine den_app_own e_i64 (xs := y0) h rfl (News.map rfl) fun l1 _ h => ?_
    conv => cbv
    cases h
    exact lp
def T_predict_Fixed : Tab := [(3, ⟨.int .i64, 1, 8, [.int .i64 (.lit 0)]⟩), (30, ⟨.slice 3, 1, 24, [.nilsl]⟩), (32, ⟨.struct [(0, 3), (1, 3), (2, 30)], 3, 40, [.int .i64 (.lit 0), .int .i64 (.lit 0), .nilsl]⟩), (136, ⟨.arr 4 3, 4, 32, [.int .i64 (.lit 0), .int .i64 (.lit 0), .int .i64 (.lit 0), .int .i64 (.lit 0)]⟩), (137, ⟨.arr 5 136, 20, 160, [.int .i64 (.lit 0), .int .i64 (.lit 0), .int .i64 (.lit 0), .int .i64 (.lit 0), .int .i64 (.lit 0), .int .i64 (.lit 0), .int .i64 (.lit 0), .int .i64 (.lit 0), .int .i64 (.lit 0), .int .i64 (.lit 0), .int .i64 (.lit 0), .int .i64 (.lit 0), .int .i64 (.lit 0), .int .i64 (.lit 0), .int .i64 (.lit 0), .int .i64 (.lit 0), .int .i64 (.lit 0), .int .i64 (.lit 0), .int .i64 (.lit 0), .int .i64 (.lit 0)]⟩)]
theorem T_predict_Fixed_ok : TabOk Tryz.prog T_predict_Fixed := tab_ok [3, 30, 32, 136, 137]
theorem v_predict_Fixed {y0 : Int} {r : predict_Linear × Int} (h : predict_Fixed y0 = some r) : AVal Tryz.prog Gl 64 [e_i64 y0] (.tup [e_predict_Linear r.1, e_i64 r.2]) := by
  refine aval_of' T_predict_Fixed Gl 19 Tryz.func64 T_predict_Fixed_ok Tryz_mixed fun P hP _ => ?_
  unfold predict_Fixed at h
  conv => cbv
  refine .mk ?_
  conv => cbv
  refine den_br h (fun _ h => ?_) (fun _ h => ?_)
  · conv => cbv
    cases h
    exact .tup _ _ lp
  conv => cbv
  refine den_elemV (f := (e_arr4 e_i64)) lp h fun p1 _ h => ?_
  conv => cbv
  refine .mk ?_
  conv => cbv
  refine den_suba e_i64 [p1.a0, p1.a1, p1.a2, p1.a3] lp h fun l2 _ h => ?_
  conv => cbv
  refine den_call' hP h (fun _ h => v_slices_Clone_sint_int h) fun r3 _ h => ?_
  conv => cbv
  cases h
  exact .tup _ _ lp
def Tx_predict_Check_c1 : Tab := [(3, ⟨.int .i64, 1, 8, [.int .i64 (.lit 0)]⟩)]
theorem Tx_predict_Check_c1_ok : TabOk Tryz.prog Tx_predict_Check_c1 := tab_ok [3]
theorem x_predict_Check_c1 {y0 : Int} {y1 : Int} {r : Unit} (h : predict_Check_c1 y0 y1 = some r) : ACalls Tryz.prog Gl 85 [e_i64 y0, .ptr 10000 0] [(10000, .var [.int .i64 (.v y1)])] (fun x o' => x = .bool (.ite (.cmp .lss (.v y0) (.ar .sub .i64 (.lit 0) (.v y1))) (.lit true) (.cmp .geq (.v y0) (.v y1))) ∧ o' = [(10000, .var [.int .i64 (.v y1)])]) := by
  refine acalls_of' Tx_predict_Check_c1 Gl 13 [10000] Tryz.func85 Tx_predict_Check_c1_ok Tryz_mixed fun P hP _ => ?_
  unfold predict_Check_c1 at h
  conv => cbv
  refine .mk ?_
  conv => cbv
  refine .mk [(10000, 10000, false)] [] rfl rfl ?_ ?_
  · conv => cbv
    cases h
    exact lp
  conv => cbv
  cases h
  exact lp
def Tx_slices_IndexFunc_sint_int_x3 : Tab := [(3, ⟨.int .i64, 1, 8, [.int .i64 (.lit 0)]⟩), (30, ⟨.slice 3, 1, 24, [.nilsl]⟩)]
theorem Tx_slices_IndexFunc_sint_int_x3_ok : TabOk Tryz.prog Tx_slices_IndexFunc_sint_int_x3 := tab_ok [3, 30]
theorem x_slices_IndexFunc_sint_int_x3 {y0 : List Int} {y1 : Int} {r : Int} (h : slices_IndexFunc_sint_int_x3 y0 y1 = some r) : ACalls Tryz.prog Gl 84 [(e_sl 1 e_i64) y0, .fn 85 [] [.ptr 10000 0]] [(10000, .var [.int .i64 (.v y1)])] (fun x o' => x = .int .i64 (.v r) ∧ o' = [(10000, .var [.int .i64 (.v y1)])]) := by
  refine acalls_of' Tx_slices_IndexFunc_sint_int_x3 Gl 19 [10000] Tryz.func84 Tx_slices_IndexFunc_sint_int_x3_ok Tryz_mixed fun P hP _ => ?_
  unfold slices_IndexFunc_sint_int_x3 at h
  conv => cbv
  refine den_cut' (r := r) slices_IndexFunc_sint_int_x3_K1 (fun j1 => ⟨[], [(10000, .var [.int .i64 (.v y1)])], []⟩) ?_ (fun j1 h => ?_)
  · conv => cbv
    refine den_loop' (slices_IndexFunc_sint_int_x3_L1 y0 y1) h (fun a2 => ⟨[(0, .sl 1 e_i64 y0), (1, .fn 85 [] [.ptr 10000 0]), (7, .int .i64 (.len y0)), (8, .int .i64 (.v a2))], [(10000, .var [.int .i64 (.v y1)])], []⟩) (fun _ _ a2 x1 h hb1 hx1 => ?_)
    unfold slices_IndexFunc_sint_int_x3_L1 at h
    conv => cbv
    refine den_br h (fun _ h => ?_) (fun _ h => ?_)
    · conv => cbv
      refine .mk ?_
      conv => cbv
      refine den_elem h fun p3 _ h => ?_
      conv => cbv
      refine den_own' [(10000, 10000, false)] [] hP h (fun _ h => x_predict_Check_c1 h) fun r4 _ h => ?_
      conv => cbv
      refine den_br h (fun _ h => ?_) (fun _ h => ?_)
      · conv => cbv
        replace h := den_out h hx1
        refine .mk [(10000, 10000, false)] [] rfl rfl ?_ ?_
        · conv => cbv
          cases h
          exact lp
        conv => cbv
        cases h
        exact lp
      conv => cbv
      exact den_back' h hb1
    conv => cbv
    replace h := den_out h hx1
    exact den_join' h
  unfold slices_IndexFunc_sint_int_x3_K1 at h
  conv => cbv
  refine .mk [(10000, 10000, false)] [] rfl rfl ?_ ?_
  · conv => cbv
    cases h
    exact lp
  conv => cbv
  cases h
  exact lp
def Tx_slices_ContainsFunc_sint_int_x3 : Tab := []
theorem Tx_slices_ContainsFunc_sint_int_x3_ok : TabOk Tryz.prog Tx_slices_ContainsFunc_sint_int_x3 := tab_ok []
theorem x_slices_ContainsFunc_sint_int_x3 {y0 : List Int} {y1 : Int} {r : Bool} (h : slices_ContainsFunc_sint_int_x3 y0 y1 = some r) : ACalls Tryz.prog Gl 61 [(e_sl 1 e_i64) y0, .fn 85 [] [.ptr 10000 0]] [(10000, .var [.int .i64 (.v y1)])] (fun x o' => x = .bool (.v r) ∧ o' = [(10000, .var [.int .i64 (.v y1)])]) := by
  refine acalls_of' Tx_slices_ContainsFunc_sint_int_x3 Gl 9 [10000] Tryz.func61 Tx_slices_ContainsFunc_sint_int_x3_ok Tryz_mixed fun P hP _ => ?_
  unfold slices_ContainsFunc_sint_int_x3 at h
  conv => cbv
  refine den_own' [(10000, 10000, false)] [] hP h (fun _ h => x_slices_IndexFunc_sint_int_x3 h) fun r1 _ h => ?_
  conv => cbv
  refine .mk [(10000, 10000, false)] [] rfl rfl ?_ ?_
  · conv => cbv
    cases h
    exact lp
  conv => cbv
  cases h
  exact lp
def T_predict_Check : Tab := [(3, ⟨.int .i64, 1, 8, [.int .i64 (.lit 0)]⟩), (30, ⟨.slice 3, 1, 24, [.nilsl]⟩), (32, ⟨.struct [(0, 3), (1, 3), (2, 30)], 3, 40, [.int .i64 (.lit 0), .int .i64 (.lit 0), .nilsl]⟩)]
theorem T_predict_Check_ok : TabOk Tryz.prog T_predict_Check := tab_ok [3, 30, 32]
theorem v_predict_Check {y0 : predict_Linear} {r : Int} (h : predict_Check y0 = some r) : AVal Tryz.prog Gl 65 [e_predict_Linear y0] (e_i64 r) := by
  refine aval_of' T_predict_Check Gl 36 Tryz.func65 T_predict_Check_ok Tryz_mixed fun P hP _ => ?_
  unfold predict_Check at h
  conv => cbv
  refine .mk ?_
  conv => cbv
  refine .mk ?_
  conv => cbv
  refine .mk ?_
  conv => cbv
  refine .mk ?_
  conv => cbv
  refine den_br h (fun _ h => ?_) (fun _ h => ?_)
  · conv => cbv
    cases h
    exact lp
  conv => cbv
  refine .mk ?_
  conv => cbv
  refine den_chk h fun h => ?_
  conv => cbv
  obtain ⟨t1, ht1, h⟩ := den_let h
  refine den_own' [(3, 10000, false)] [] hP h (fun _ h => x_slices_ContainsFunc_sint_int_x3 h) fun r2 _ h => ?_
  conv => cbv
  refine den_br h (fun _ h => ?_) (fun _ h => ?_)
  · conv => cbv
    cases h
    exact lp
  conv => cbv
  cases h
  exact lp
def T_slices_IndexFunc_sint_int_x4 : Tab := [(3, ⟨.int .i64, 1, 8, [.int .i64 (.lit 0)]⟩), (30, ⟨.slice 3, 1, 24, [.nilsl]⟩)]
theorem T_slices_IndexFunc_sint_int_x4_ok : TabOk Tryz.prog T_slices_IndexFunc_sint_int_x4 := tab_ok [3, 30]
theorem v_slices_IndexFunc_sint_int_x4 {y0 : List Int} {g1 : Int → Option Bool} (fid1 : Nat) (hg1 : ∀ z0 r, g1 z0 = some r → AVal Tryz.prog Gl fid1 [e_i64 z0] (e_bool r)) {r : Int} (h : slices_IndexFunc_sint_int_x4 y0 g1 = some r) : AVal Tryz.prog Gl 84 [(e_sl 1 e_i64) y0, (.fn fid1 [] [])] (e_i64 r) := by
  refine aval_of' T_slices_IndexFunc_sint_int_x4 Gl 19 Tryz.func84 T_slices_IndexFunc_sint_int_x4_ok Tryz_mixed fun P hP _ => ?_
  unfold slices_IndexFunc_sint_int_x4 at h
  conv => cbv
  refine den_cut' (r := r) slices_IndexFunc_sint_int_x4_K1 (fun j1 => ⟨[], [], []⟩) ?_ (fun j1 h => ?_)
  · conv => cbv
    refine den_loop' (slices_IndexFunc_sint_int_x4_L1 y0 g1) h (fun a2 => ⟨[(0, .sl 1 e_i64 y0), (1, .fn fid1 [] []), (7, .int .i64 (.len y0)), (8, .int .i64 (.v a2))], [], []⟩) (fun _ _ a2 x1 h hb1 hx1 => ?_)
    unfold slices_IndexFunc_sint_int_x4_L1 at h
    conv => cbv
    refine den_br h (fun _ h => ?_) (fun _ h => ?_)
    · conv => cbv
      refine .mk ?_
      conv => cbv
      refine den_elem h fun p3 _ h => ?_
      conv => cbv
      refine den_call' hP h (fun _ h => hg1 _ _ h) fun r4 _ h => ?_
      conv => cbv
      refine den_br h (fun _ h => ?_) (fun _ h => ?_)
      · conv => cbv
        replace h := den_out h hx1
        cases h
        exact lp
      conv => cbv
      exact den_back' h hb1
    conv => cbv
    replace h := den_out h hx1
    exact den_join' h
  unfold slices_IndexFunc_sint_int_x4_K1 at h
  conv => cbv
  cases h
  exact lp
def T_slices_ContainsFunc_sint_int_x4 : Tab := []
theorem T_slices_ContainsFunc_sint_int_x4_ok : TabOk Tryz.prog T_slices_ContainsFunc_sint_int_x4 := tab_ok []
theorem v_slices_ContainsFunc_sint_int_x4 {y0 : List Int} {g1 : Int → Option Bool} (fid1 : Nat) (hg1 : ∀ z0 r, g1 z0 = some r → AVal Tryz.prog Gl fid1 [e_i64 z0] (e_bool r)) {r : Bool} (h : slices_ContainsFunc_sint_int_x4 y0 g1 = some r) : AVal Tryz.prog Gl 61 [(e_sl 1 e_i64) y0, (.fn fid1 [] [])] (e_bool r) := by
  refine aval_of' T_slices_ContainsFunc_sint_int_x4 Gl 9 Tryz.func61 T_slices_ContainsFunc_sint_int_x4_ok Tryz_mixed fun P hP _ => ?_
  unfold slices_ContainsFunc_sint_int_x4 at h
  conv => cbv
  refine den_call' hP h (fun _ h => v_slices_IndexFunc_sint_int_x4 _ hg1 h) fun r1 _ h => ?_
  conv => cbv
  cases h
  exact lp
def T_predict_may_c1 : Tab := []
theorem T_predict_may_c1_ok : TabOk Tryz.prog T_predict_may_c1 := tab_ok []
theorem v_predict_may_c1 {y0 : Int} {r : Bool} (h : predict_may_c1 y0 = some r) : AVal Tryz.prog Gl 86 [e_i64 y0] (e_bool r) := by
  refine aval_of' T_predict_may_c1 Gl 9 Tryz.func86 T_predict_may_c1_ok Tryz_mixed fun P hP _ => ?_
  unfold predict_may_c1 at h
  conv => cbv
  refine .mk ?_
  conv => cbv
  cases h
  exact lp
def T_predict_may : Tab := []
theorem T_predict_may_ok : TabOk Tryz.prog T_predict_may := tab_ok []
theorem v_predict_may {y0 : List Int} {r : Bool} (h : predict_may y0 = some r) : AVal Tryz.prog Gl 66 [(e_sl 1 e_i64) y0] (e_bool r) := by
  refine aval_of' T_predict_may Gl 6 Tryz.func66 T_predict_may_ok Tryz_mixed fun P hP _ => ?_
  unfold predict_may at h
  conv => cbv
  refine den_call' hP h (fun _ h => v_slices_ContainsFunc_sint_int_x4 _ (fun _ _ h => v_predict_may_c1 h) h) fun r1 _ h => ?_
  conv => cbv
  cases h
  exact lp
def Tx_predict_back : Tab := []
theorem Tx_predict_back_ok : TabOk Tryz.prog Tx_predict_back := tab_ok []
theorem x_predict_back {y0 : List Int} {r : Unit} (h : predict_back y0 = some r) : ACalls Tryz.prog Gl 87 [(e_sl 1 e_i64) y0] [] (fun x o' => x = .fn 100 [] [.rptr [.sl 1 e_i64 y0]] ∧ o' = []) := by
  refine acalls_of' Tx_predict_back Gl 4 [] Tryz.func87 Tx_predict_back_ok Tryz_mixed fun P hP _ => ?_
  unfold predict_back at h
  conv => cbv
  refine .box 1 _ rfl rfl rfl ?_
  conv => cbv
  refine .mk [] [] rfl rfl ?_ ?_
  · conv => cbv
    cases h
    trivial
  conv => cbv
  cases h
  exact lp
def T_predict_Linear_told : Tab := [(3, ⟨.int .i64, 1, 8, [.int .i64 (.lit 0)]⟩), (30, ⟨.slice 3, 1, 24, [.nilsl]⟩), (32, ⟨.struct [(0, 3), (1, 3), (2, 30)], 3, 40, [.int .i64 (.lit 0), .int .i64 (.lit 0), .nilsl]⟩)]
theorem T_predict_Linear_told_ok : TabOk Tryz.prog T_predict_Linear_told := tab_ok [3, 30, 32]
theorem v_predict_Linear_told {y0 : predict_Linear} {y1 : List Int} {r : Int} (h : predict_Linear_told y0 y1 = some r) : AVal Tryz.prog Gl 67 [e_predict_Linear y0, (e_sl 1 e_i64) y1] (e_i64 r) := by
  refine aval_of' T_predict_Linear_told Gl 32 Tryz.func67 T_predict_Linear_told_ok Tryz_mixed fun P hP _ => ?_
  unfold predict_Linear_told at h
  conv => cbv
  refine den_cut' (r := r) (predict_Linear_told_K1 y0) (fun j1 => ⟨[(2, .ptr 2 0), (5, .ptr 5 0)], [(2, .var [.int .i64 (.v y0.Precision), .int .i64 (.v y0.Shift), .sl 1 e_i64 y0.Coefs]), (5, .var [.int .i64 (.v j1)])], []⟩) ?_ (fun j1 h => ?_)
  · conv => cbv
    refine .mk ?_
    conv => cbv
    refine den_sub h fun l2 _ h => ?_
    conv => cbv
    refine den_own' (ho := True.intro) [] [] hP h (fun _ h => x_predict_back h) fun r3 _ h => ?_
    conv => cbv
    refine den_bind h fun e4 hse4 h => ?_
    refine den_fold (step := (predict_Linear_told_L1 y0)) (done := (predict_Linear_told_K2 y0)) (ret := ((fun b => nomatch b))) h (fun p5 : Int × Int => [.int .i64 (.v p5.1), .int .i64 (.v p5.2)]) (fun a6 : Int => ⟨[(2, .ptr 2 0), (4, .int .i64 (.lit 0)), (5, .ptr 5 0)], [(2, .var [.int .i64 (.v y0.Precision), .int .i64 (.v y0.Shift), .sl 1 e_i64 y0.Coefs]), (5, .var [.int .i64 (.v a6)])], []⟩) (fun b7 : Empty => nomatch b7) 0 100 [.rptr [.sl 1 e_i64 l2]] rfl rfl (hP ▸ it_back hse4) (fun _ => ⟨rfl, rfl⟩) ?_ (fun p5 a6 x1 h => ?_) (fun b7 h => ?_) (fun a6 h => ?_)
    · conv => cbv
      exact ⟨⟨.same _, .var _ _ lp, trivial⟩, .same _, .same _, .same _, trivial⟩
    · refine den_round 0 [(2, 10002, false), (5, 10005, false)] _ [(10002, .var [.int .i64 (.v y0.Precision), .int .i64 (.v y0.Shift), .sl 1 e_i64 y0.Coefs]), (10005, .var [.int .i64 (.v a6)])] (fun a6 : Int => [(10002, .var [.int .i64 (.v y0.Precision), .int .i64 (.v y0.Shift), .sl 1 e_i64 y0.Coefs]), (10005, .var [.int .i64 (.v a6)])]) (fun b7 : Empty => nomatch b7) (LePl.refl _ _) (fun _ => rfl) (fun b => nomatch b) rfl (by (conv => cbv); exact ⟨.same _, .same _, trivial⟩) ?_ (fun a6 => ?_) (fun b7 => ?_)
      · refine round_of (c := ⟨T_predict_Linear_told, Gl, 32, [10002, 10005], []⟩) rfl (hP ▸ T_predict_Linear_told_ok) (by rw [hP]; exact eqsOk_of (by kernel_rfl)) (by rw [hP]; exact Tryz_mixed) rfl rfl rfl rfl rfl ?_ fun P hP2 _ => ?_
        · cases x1 with
          | inl => rfl
          | inr b => exact nomatch b
        have hP := hP2.trans hP
        unfold predict_Linear_told_L1 at h
        conv => cbv
        refine .mk (some [10005]) (by kernel_rfl) ?_
        conv => cbv
        refine den_elem h fun p8 _ h => ?_
        conv => cbv
        refine .mk ?_
        conv => cbv
        obtain ⟨t0, ht0, rfl⟩ := den_inl h
        conv => cbv
        refine .mk [(10002, 10002, false), (10005, 10005, false)] [] rfl rfl ?_ ?_
        · conv => cbv
          subst ht0
          exact ⟨.same _, .var _ _ lp, trivial⟩
        conv => cbv
        exact lp
      · conv => cbv
        exact lp
      · exact nomatch b7
    · exact nomatch b7
    · unfold predict_Linear_told_K2 at h
      conv => cbv
      exact den_join' h
  unfold predict_Linear_told_K1 at h
  conv => cbv
  refine den_chk h fun h => ?_
  conv => cbv
  cases h
  exact lp
def T_predict_Residual : Tab := [(3, ⟨.int .i64, 1, 8, [.int .i64 (.lit 0)]⟩), (30, ⟨.slice 3, 1, 24, [.nilsl]⟩), (32, ⟨.struct [(0, 3), (1, 3), (2, 30)], 3, 40, [.int .i64 (.lit 0), .int .i64 (.lit 0), .nilsl]⟩)]
theorem T_predict_Residual_ok : TabOk Tryz.prog T_predict_Residual := tab_ok [3, 30, 32]
theorem v_predict_Residual {y0 : predict_Linear} {y1 : List Int} {r : (List Int) × Int} (h : predict_Residual y0 y1 = some r) : AVal Tryz.prog Gl 39 [e_predict_Linear y0, (e_sl 1 e_i64) y1] (.tup [(e_sl 1 e_i64) r.1, e_i64 r.2]) := by
  refine aval_of' T_predict_Residual Gl 48 Tryz.func39 T_predict_Residual_ok Tryz_mixed fun P hP _ => ?_
  unfold predict_Residual at h
  conv => cbv
  refine den_call' hP h (fun _ h => v_predict_Check h) fun r1 _ h => ?_
  conv => cbv
  refine den_br h (fun _ h => ?_) (fun _ h => ?_)
  · conv => cbv
    cases h
    exact .tup _ _ lp
  conv => cbv
  refine den_br h (fun _ h => ?_) (fun _ h => ?_)
  · conv => cbv
    cases h
    exact .tup _ _ lp
  conv => cbv
  refine den_call' hP h (fun _ h => v_predict_may h) fun r2 _ h => ?_
  conv => cbv
  refine den_br h (fun _ h => ?_) (fun _ h => ?_)
  · conv => cbv
    cases h
    exact .tup _ _ lp
  conv => cbv
  refine den_cut' (r := r) predict_Residual_K1 (fun j3 => ⟨[(8, .osl 1008)], [(1008, .arr false 3 1 e_i64 j3)], []⟩) ?_ (fun j3 h => ?_)
  · conv => cbv
    refine den_loop (predict_Residual_L1 y0 y1) h (fun a4 : Int × (List Int) => ⟨[(1, .sl 1 e_i64 y1), (2, .ptr 2 0), (8, .osl 1008), (9, .int .i64 (.v a4.1))], [(2, .var [.int .i64 (.v y0.Precision), .int .i64 (.v y0.Shift), .sl 1 e_i64 y0.Coefs]), (1008, .arr false 3 1 e_i64 a4.2)], []⟩) ?_ (fun _ _ a4 x1 h hb1 hx1 => ?_)
    · intro j0 hj
      conv => cbv
      subst hj
      exact ⟨⟨.same _, .arr _ _ _ _ _ _ rfl, trivial⟩, .same _, .same _, .own _ _ _ _ _ _ rfl rfl, .int _ _ _ rfl, trivial⟩
    unfold predict_Residual_L1 at h
    conv => cbv
    refine den_br h (fun _ h => ?_) (fun _ h => ?_)
    · conv => cbv
      refine .mk (some [1008]) (by kernel_rfl) ?_
      conv => cbv
      refine den_elem h fun p5 _ h => ?_
      conv => cbv
      refine .mk ?_
      conv => cbv
      refine den_sub h fun l6 _ h => ?_
      conv => cbv
      refine den_call' hP h (fun _ h => v_predict_Linear_told h) fun r7 _ h => ?_
      conv => cbv
      refine .mk ?_
      conv => cbv
      refine .data ?_
      conv => cbv
      refine den_app_own e_i64 (xs := [(W (p5 - r7))]) h rfl lp fun l8 _ h => ?_
      conv => cbv
      exact den_back' h hb1
    conv => cbv
    replace h := den_out h hx1
    exact den_join' h
  unfold predict_Residual_K1 at h
  conv => cbv
  cases h
  exact .tup _ _ lp
def T_predict_Best : Tab := [(3, ⟨.int .i64, 1, 8, [.int .i64 (.lit 0)]⟩), (30, ⟨.slice 3, 1, 24, [.nilsl]⟩), (32, ⟨.struct [(0, 3), (1, 3), (2, 30)], 3, 40, [.int .i64 (.lit 0), .int .i64 (.lit 0), .nilsl]⟩)]
theorem T_predict_Best_ok : TabOk Tryz.prog T_predict_Best := tab_ok [3, 30, 32]
theorem v_predict_Best {y0 : List Int} {r : Int} (h : predict_Best y0 = some r) : AVal Tryz.prog Gl 38 [(e_sl 1 e_i64) y0] (e_i64 r) := by
  refine aval_of' T_predict_Best Gl 56 Tryz.func38 T_predict_Best_ok Tryz_mixed fun P hP _ => ?_
  unfold predict_Best at h
  conv => cbv
  refine den_cut' (r := r) predict_Best_K1 (fun j1 => ⟨[(3, .int .i64 (.v j1))], [], []⟩) ?_ (fun j1 h => ?_)
  · conv => cbv
    refine den_loop' (predict_Best_L1 y0) h (fun a2 => ⟨[(0, .sl 1 e_i64 y0), (3, .int .i64 (.v a2.1)), (4, .int .i64 (.v a2.2.1)), (15, .int .i64 (.mn (.lit 5) (.len y0))), (16, .int .i64 (.v a2.2.2))], [], []⟩) (fun _ _ a2 x1 h hb1 hx1 => ?_)
    unfold predict_Best_L1 at h
    conv => cbv
    refine den_br h (fun _ h => ?_) (fun _ h => ?_)
    · conv => cbv
      refine den_cut' (r := x1) (predict_Best_K2 a2) (fun j3 => ⟨[(0, .sl 1 e_i64 y0), (3, .int .i64 (.v j3.1)), (4, .int .i64 (.v j3.2)), (15, .int .i64 (.mn (.lit 5) (.len y0))), (16, .int .i64 (.v a2.2.2))], [], []⟩) ?_ (fun j3 h => ?_)
      · conv => cbv
        refine den_call' hP h (fun _ h => v_predict_Fixed h) fun r4 _ h => ?_
        conv => cbv
        refine .mk ?_
        conv => cbv
        refine .mk ?_
        conv => cbv
        refine den_call' hP h (fun _ h => v_predict_Residual h) fun r5 _ h => ?_
        conv => cbv
        refine den_br h (fun _ h => ?_) (fun _ h => ?_)
        · conv => cbv
          replace h := den_out h hx1
          cases h
          exact lp
        conv => cbv
        refine den_cut' (r := x1) (predict_Best_K3 a2) (fun j6 => ⟨[(0, .sl 1 e_i64 y0), (3, .int .i64 (.v a2.1)), (4, .int .i64 (.v a2.2.1)), (5, .int .i64 (.v a2.2.2)), (10, .int .i64 (.v j6)), (15, .int .i64 (.mn (.lit 5) (.len y0))), (16, .int .i64 (.v a2.2.2))], [], []⟩) ?_ (fun j6 h => ?_)
        · conv => cbv
          refine den_loop' (predict_Best_L2 a2 r5) h (fun a7 => ⟨[(0, .sl 1 e_i64 y0), (3, .int .i64 (.v a2.1)), (4, .int .i64 (.v a2.2.1)), (5, .int .i64 (.v a2.2.2)), (10, .int .i64 (.v a7.1)), (15, .int .i64 (.mn (.lit 5) (.len y0))), (16, .int .i64 (.v a2.2.2)), (32, .sl 1 e_i64 r5.1), (33, .int .i64 (.len r5.1)), (34, .int .i64 (.v a7.2))], [], []⟩) (fun _ _ a7 x2 h hb2 hx2 => ?_)
          unfold predict_Best_L2 at h
          conv => cbv
          refine den_br h (fun _ h => ?_) (fun _ h => ?_)
          · conv => cbv
            refine den_elem h fun p8 _ h => ?_
            conv => cbv
            refine .mk ?_
            conv => cbv
            exact den_back' h hb2
          conv => cbv
          replace h := den_out h hx2
          exact den_join' h
        unfold predict_Best_K3 at h
        conv => cbv
        refine .mk ?_
        conv => cbv
        refine den_br h (fun _ h => ?_) (fun _ h => ?_)
        · conv => cbv
          exact den_join' h
        conv => cbv
        exact den_join' h
      unfold predict_Best_K2 at h
      conv => cbv
      exact den_back' h hb1
    conv => cbv
    replace h := den_out h hx1
    exact den_join' h
  unfold predict_Best_K1 at h
  conv => cbv
  cases h
  exact lp
def Tx_slices_Clone_sint_int_x2 : Tab := [(3, ⟨.int .i64, 1, 8, [.int .i64 (.lit 0)]⟩), (30, ⟨.slice 3, 1, 24, [.nilsl]⟩)]
theorem Tx_slices_Clone_sint_int_x2_ok : TabOk Tryz.prog Tx_slices_Clone_sint_int_x2 := tab_ok [3, 30]
theorem x_slices_Clone_sint_int_x2 {y0 : List Int} {r : (List Int)} (h : slices_Clone_sint_int_x2 y0 = some r) : ACalls Tryz.prog Gl 83 [(e_sl 1 e_i64) y0] [] (fun x o' => x = .osl 20000 ∧ o' = [(20000, .arr false 3 1 e_i64 r)]) := by
  refine acalls_of' Tx_slices_Clone_sint_int_x2 Gl 8 [] Tryz.func83 Tx_slices_Clone_sint_int_x2_ok Tryz_mixed fun P hP _ => ?_
  unfold slices_Clone_sint_int_x2 at h
  conv => cbv
  refine den_nil h (fun h hl => ?_) (fun h => ?_)
  · replace h : (some []) = some r := by
      simp only [hl] at h
      simpa [app] using h
    conv => cbv
    refine .add 9999 3 1 e_i64 rfl rfl ?_
    refine .mk [(9999, 20000, false)] [] rfl rfl ?_ ?_
    · conv => cbv
      cases h
      exact lp
    conv => cbv
    cases h
    exact .cons _ _ _ _ (.own _ _ _ _ _ _ rfl rfl) .nil
  · conv => cbv
    refine .own e_i64 ?_
    conv => cbv
    refine den_app_own e_i64 (xs := y0) h rfl (News.map rfl) fun l1 _ h => ?_
    conv => cbv
    refine .mk [(5, 20000, false)] [] rfl rfl ?_ ?_
    · conv => cbv
      cases h
      exact lp
    conv => cbv
    cases h
    exact lp
def Tx_predict_Restore : Tab := [(3, ⟨.int .i64, 1, 8, [.int .i64 (.lit 0)]⟩), (30, ⟨.slice 3, 1, 24, [.nilsl]⟩), (32, ⟨.struct [(0, 3), (1, 3), (2, 30)], 3, 40, [.int .i64 (.lit 0), .int .i64 (.lit 0), .nilsl]⟩)]
theorem Tx_predict_Restore_ok : TabOk Tryz.prog Tx_predict_Restore := tab_ok [3, 30, 32]
theorem x_predict_Restore {y0 : predict_Linear} {y1 : List Int} {y2 : List Int} {r : Int × (List Int)} (h : predict_Restore y0 y1 y2 = some r) : ACalls Tryz.prog Gl 53 [e_predict_Linear y0, (e_sl 1 e_i64) y1, (e_sl 1 e_i64) y2] [] (fun x o' => x = .tup [.osl 20000, .int .i64 (.v r.1)] ∧ o' = [(20000, .arr false 3 1 e_i64 r.2)]) := by
  refine acalls_of' Tx_predict_Restore Gl 60 [] Tryz.func53 Tx_predict_Restore_ok Tryz_mixed fun P hP _ => ?_
  unfold predict_Restore at h
  conv => cbv
  refine den_call' hP h (fun _ h => v_predict_Check h) fun r1 _ h => ?_
  conv => cbv
  refine den_br h (fun _ h => ?_) (fun _ h => ?_)
  · conv => cbv
    refine .add 9999 3 1 e_i64 rfl rfl ?_
    refine .mk [(9999, 20000, false)] [] rfl rfl ?_ ?_
    · conv => cbv
      cases h
      exact lp
    conv => cbv
    cases h
    exact .cons _ _ _ _ (.tup _ _ (.cons _ _ _ _ (.own _ _ _ _ _ _ rfl rfl) lp)) .nil
  conv => cbv
  refine .mk ?_
  conv => cbv
  refine den_br h (fun _ h => ?_) (fun _ h => ?_)
  · conv => cbv
    refine .add 9999 3 1 e_i64 rfl rfl ?_
    refine .mk [(9999, 20000, false)] [] rfl rfl ?_ ?_
    · conv => cbv
      cases h
      exact lp
    conv => cbv
    cases h
    exact .cons _ _ _ _ (.tup _ _ (.cons _ _ _ _ (.own _ _ _ _ _ _ rfl rfl) lp)) .nil
  conv => cbv
  refine den_own' (ho := True.intro) [(1009, 20000, true)] [] hP h (fun _ h => x_slices_Clone_sint_int_x2 h) fun r2 _ h => ?_
  conv => cbv
  refine den_call' hP h (fun _ h => v_predict_may h) fun r3 _ h => ?_
  conv => cbv
  refine den_br h (fun _ h => ?_) (fun _ h => ?_)
  · conv => cbv
    refine .add 9999 3 1 e_i64 rfl rfl ?_
    refine .mk [(9999, 20000, false)] [] rfl rfl ?_ ?_
    · conv => cbv
      cases h
      exact lp
    conv => cbv
    cases h
    exact .cons _ _ _ _ (.tup _ _ (.cons _ _ _ _ (.own _ _ _ _ _ _ rfl rfl) lp)) .nil
  conv => cbv
  refine den_cut' (r := r) predict_Restore_K1 (fun j4 => ⟨[(9, .osl 1009), (10, .int .i64 (.v j4.1))], [(1009, .arr false 3 1 e_i64 j4.2)], []⟩) ?_ (fun j4 h => ?_)
  · conv => cbv
    refine den_loop' (predict_Restore_L1 y0 y2) h (fun a5 => ⟨[(3, .ptr 3 0), (9, .osl 1009), (10, .int .i64 (.lit 0)), (30, .sl 1 e_i64 y2), (31, .int .i64 (.len y2)), (32, .int .i64 (.v a5.1))], [(3, .var [.int .i64 (.v y0.Precision), .int .i64 (.v y0.Shift), .sl 1 e_i64 y0.Coefs]), (1009, .arr false 3 1 e_i64 a5.2)], []⟩) (fun _ _ a5 x1 h hb1 hx1 => ?_)
    unfold predict_Restore_L1 at h
    conv => cbv
    refine den_br h (fun _ h => ?_) (fun _ h => ?_)
    · conv => cbv
      refine den_elem h fun p6 _ h => ?_
      conv => cbv
      refine den_lend' hP h (fun _ h => v_predict_Linear_told h) fun r7 _ h => ?_
      conv => cbv
      refine .mk ?_
      conv => cbv
      refine den_br h (fun _ h => ?_) (fun _ h => ?_)
      · conv => cbv
        replace h := den_out h hx1
        exact den_join' h
      conv => cbv
      refine .mk ?_
      conv => cbv
      refine .data ?_
      conv => cbv
      refine den_app_own e_i64 (xs := [(W (p6 + r7))]) h rfl lp fun l8 _ h => ?_
      conv => cbv
      exact den_back' h hb1
    conv => cbv
    replace h := den_out h hx1
    exact den_join' h
  unfold predict_Restore_K1 at h
  conv => cbv
  refine den_br h (fun _ h => ?_) (fun _ h => ?_)
  · conv => cbv
    refine .add 9999 3 1 e_i64 rfl rfl ?_
    refine .mk [(9999, 20000, false)] [] rfl rfl ?_ ?_
    · conv => cbv
      cases h
      exact lp
    conv => cbv
    cases h
    exact .cons _ _ _ _ (.tup _ _ (.cons _ _ _ _ (.own _ _ _ _ _ _ rfl rfl) lp)) .nil
  conv => cbv
  refine .mk [(1009, 20000, false)] [] rfl rfl ?_ ?_
  · conv => cbv
    cases h
    exact lp
  conv => cbv
  cases h
  exact .cons _ _ _ _ (.tup _ _ lp) .nil
end Go.Proofs.YtpjbfealfmjddaaGreatDoor
