/- That the code answers so, printed by a program. -/
import Derived.Test.YtpjbfealfmjddaaGreatDoorF1
import Derived.Test.YtpjbfealfmjddaaGreatDoorIt
import Derived.Test.YtpjbfealfmjddaaGreatDoorProg
import Derived.Test.YtpjbfealfmjddaaGreatDoorVm
import Derived.Test.YtpjbfealfmjddaaGreatDoorV3
set_option maxRecDepth 4000
set_option linter.all false
set_option linter.unusedVariables false
set_option linter.unusedSimpArgs false
namespace Go.Proofs.YtpjbfealfmjddaaGreatDoor
open Go Go.Vg
def T_rice_head : Tab := []
theorem T_rice_head_ok : TabOk Tryz.prog T_rice_head := tab_ok []
theorem v_rice_head {y0 : Int} {y1 : Int} {y2 : Int} {y3 : Int} {r : Int} (h : rice_head y0 y1 y2 y3 = some r) : AVal Tryz.prog Gl 68 [e_i64 y0, e_i64 y1, e_i64 y2, e_i64 y3] (e_i64 r) := by
  refine aval_of' T_rice_head Gl 53 Tryz.func68 T_rice_head_ok Tryz_mixed fun P hP _ => ?_
  unfold rice_head at h
  conv => cbv
  refine .mk ?_
  conv => cbv
  refine .mk ?_
  conv => cbv
  refine den_br h (fun _ h => ?_) (fun _ h => ?_)
  · conv => cbv
    cases h
    exact lp
  conv => cbv
  refine .mk ?_
  conv => cbv
  refine .mk ?_
  conv => cbv
  refine den_br h (fun _ h => ?_) (fun _ h => ?_)
  · conv => cbv
    cases h
    exact lp
  conv => cbv
  refine .mk ?_
  conv => cbv
  refine den_chk h fun h => ?_
  conv => cbv
  refine .mk ?_
  conv => cbv
  refine den_br h (fun _ h => ?_) (fun _ h => ?_)
  · conv => cbv
    cases h
    exact lp
  conv => cbv
  refine den_chk h fun h => ?_
  conv => cbv
  refine den_br h (fun _ h => ?_) (fun _ h => ?_)
  · conv => cbv
    cases h
    exact lp
  conv => cbv
  cases h
  exact lp
def T_rice_fold : Tab := []
theorem T_rice_fold_ok : TabOk Tryz.prog T_rice_fold := tab_ok []
theorem v_rice_fold {y0 : Int} {r : Int × Bool} (h : rice_fold y0 = some r) : AVal Tryz.prog Gl 69 [e_i64 y0] (.tup [e_i64 r.1, e_bool r.2]) := by
  refine aval_of' T_rice_fold Gl 15 Tryz.func69 T_rice_fold_ok Tryz_mixed fun P hP _ => ?_
  unfold rice_fold at h
  conv => cbv
  refine den_br h (fun _ h => ?_) (fun _ h => ?_)
  · conv => cbv
    refine .mk ?_
    conv => cbv
    cases h
    exact .tup _ _ lp
  conv => cbv
  refine .mk ?_
  conv => cbv
  cases h
  exact .tup _ _ lp
def Tx_rice_parts : Tab := []
theorem Tx_rice_parts_ok : TabOk Tryz.prog Tx_rice_parts := tab_ok []
theorem x_rice_parts {y0 : Int} {y1 : Int} {y2 : Int} {r : Unit} (h : rice_parts y0 y1 y2 = some r) : ACalls Tryz.prog Gl 70 [e_i64 y0, e_i64 y1, e_i64 y2] [] (fun x o' => x = .fn 88 [] [.rptr [.int .i64 (.v y1)], .rptr [.int .i64 (.v y0)], .rptr [.int .i64 (.v y2)]] ∧ o' = []) := by
  refine acalls_of' Tx_rice_parts Gl 8 [] Tryz.func70 Tx_rice_parts_ok Tryz_mixed fun P hP _ => ?_
  unfold rice_parts at h
  conv => cbv
  refine .box 4 _ rfl rfl rfl ?_
  conv => cbv
  refine .box 3 _ rfl rfl rfl ?_
  conv => cbv
  refine .box 5 _ rfl rfl rfl ?_
  conv => cbv
  refine .mk [] [] rfl rfl ?_ ?_
  · conv => cbv
    cases h
    trivial
  conv => cbv
  cases h
  exact lp
def T_rice_escape : Tab := []
theorem T_rice_escape_ok : TabOk Tryz.prog T_rice_escape := tab_ok []
theorem v_rice_escape {y0 : Int} {r : Int} (h : rice_escape y0 = some r) : AVal Tryz.prog Gl 76 [e_i64 y0] (e_i64 r) := by
  refine aval_of' T_rice_escape Gl 7 Tryz.func76 T_rice_escape_ok Tryz_mixed fun P hP _ => ?_
  unfold rice_escape at h
  conv => cbv
  refine den_chk h fun h => ?_
  conv => cbv
  cases h
  exact lp
def T_rice_width : Tab := []
theorem T_rice_width_ok : TabOk Tryz.prog T_rice_width := tab_ok []
theorem v_rice_width {y0 : Int} {r : Int} (h : rice_width y0 = some r) : AVal Tryz.prog Gl 89 [e_i64 y0] (e_i64 r) := by
  refine aval_of' T_rice_width Gl 22 Tryz.func89 T_rice_width_ok Tryz_mixed fun P hP _ => ?_
  unfold rice_width at h
  conv => cbv
  refine den_cut' (r := r) rice_width_K1 (fun j1 => ⟨[(0, .int .i64 (.v j1.1)), (3, .int .i64 (.v j1.2))], [], []⟩) ?_ (fun j1 h => ?_)
  · conv => cbv
    refine den_loop' rice_width_L1 h (fun a2 => ⟨[(0, .int .i64 (.v a2.1)), (3, .int .i64 (.v a2.2))], [], []⟩) (fun _ _ a2 x1 h hb1 hx1 => ?_)
    unfold rice_width_L1 at h
    conv => cbv
    refine .mk ?_
    conv => cbv
    refine den_br h (fun _ h => ?_) (fun _ h => ?_)
    · conv => cbv
      exact den_back' h hb1
    conv => cbv
    replace h := den_out h hx1
    exact den_join' h
  unfold rice_width_K1 at h
  conv => cbv
  refine .mk ?_
  conv => cbv
  refine den_br h (fun _ h => ?_) (fun _ h => ?_)
  · conv => cbv
    cases h
    exact lp
  conv => cbv
  cases h
  exact lp
def T_rice_one : Tab := []
theorem T_rice_one_ok : TabOk Tryz.prog T_rice_one := tab_ok []
theorem v_rice_one {y0 : Int} {y1 : Int} {y2 : Int} {r : Int × Bool} (h : rice_one y0 y1 y2 = some r) : AVal Tryz.prog Gl 90 [e_i64 y0, e_i64 y1, e_i64 y2] (.tup [e_i64 r.1, e_bool r.2]) := by
  refine aval_of' T_rice_one Gl 34 Tryz.func90 T_rice_one_ok Tryz_mixed fun P hP _ => ?_
  unfold rice_one at h
  conv => cbv
  refine .mk ?_
  conv => cbv
  refine den_call' hP h (fun _ h => v_rice_fold h) fun r1 _ h => ?_
  conv => cbv
  refine den_br h (fun _ h => ?_) (fun _ h => ?_)
  · conv => cbv
    cases h
    exact .tup _ _ lp
  conv => cbv
  refine den_br h (fun _ h => ?_) (fun _ h => ?_)
  · conv => cbv
    refine .mk ?_
    conv => cbv
    refine den_call' hP h (fun _ h => v_rice_width h) fun r2 _ h => ?_
    conv => cbv
    cases h
    exact .tup _ _ lp
  conv => cbv
  refine .dup ?_
  conv => cbv
  refine .mk (some []) (by kernel_rfl) ?_
  conv => cbv
  refine den_chk h fun h => ?_
  conv => cbv
  refine .mk ?_
  conv => cbv
  refine den_chk h fun h => ?_
  conv => cbv
  refine .mk ?_
  conv => cbv
  cases h
  exact .tup _ _ lp
def T_rice_some : Tab := [(3, ⟨.int .i64, 1, 8, [.int .i64 (.lit 0)]⟩), (30, ⟨.slice 3, 1, 24, [.nilsl]⟩)]
theorem T_rice_some_ok : TabOk Tryz.prog T_rice_some := tab_ok [3, 30]
theorem v_rice_some {y0 : List Int} {y1 : Int} {y2 : Int} {r : Int × Bool} (h : rice_some y0 y1 y2 = some r) : AVal Tryz.prog Gl 73 [(e_sl 1 e_i64) y0, e_i64 y1, e_i64 y2] (.tup [e_i64 r.1, e_bool r.2]) := by
  refine aval_of' T_rice_some Gl 33 Tryz.func73 T_rice_some_ok Tryz_mixed fun P hP _ => ?_
  unfold rice_some at h
  conv => cbv
  refine den_cut' (r := r) rice_some_K1 (fun j1 => ⟨[(8, .int .i64 (.v j1))], [], []⟩) ?_ (fun j1 h => ?_)
  · conv => cbv
    refine den_loop' (rice_some_L1 y0 y1 y2) h (fun a2 => ⟨[(1, .int .i64 (.v y1)), (2, .int .i64 (.v y2)), (8, .int .i64 (.v a2.1)), (13, .sl 1 e_i64 y0), (14, .int .i64 (.len y0)), (15, .int .i64 (.v a2.2))], [], []⟩) (fun _ _ a2 x1 h hb1 hx1 => ?_)
    unfold rice_some_L1 at h
    conv => cbv
    refine den_br h (fun _ h => ?_) (fun _ h => ?_)
    · conv => cbv
      refine den_elem h fun p3 _ h => ?_
      conv => cbv
      refine .mk ?_
      conv => cbv
      refine den_call' hP h (fun _ h => v_rice_one h) fun r4 _ h => ?_
      conv => cbv
      refine den_br h (fun _ h => ?_) (fun _ h => ?_)
      · conv => cbv
        replace h := den_out h hx1
        cases h
        exact .tup _ _ lp
      conv => cbv
      exact den_back' h hb1
    conv => cbv
    replace h := den_out h hx1
    exact den_join' h
  unfold rice_some_K1 at h
  conv => cbv
  cases h
  exact .tup _ _ lp
def T_rice_cheapest : Tab := [(3, ⟨.int .i64, 1, 8, [.int .i64 (.lit 0)]⟩), (30, ⟨.slice 3, 1, 24, [.nilsl]⟩)]
theorem T_rice_cheapest_ok : TabOk Tryz.prog T_rice_cheapest := tab_ok [3, 30]
theorem v_rice_cheapest {y0 : Int} {y1 : List Int} {r : Int × Int × Int} (h : rice_cheapest y0 y1 = some r) : AVal Tryz.prog Gl 71 [e_i64 y0, (e_sl 1 e_i64) y1] (.tup [e_i64 r.1, e_i64 r.2.1, e_i64 r.2.2]) := by
  refine aval_of' T_rice_cheapest Gl 68 Tryz.func71 T_rice_cheapest_ok Tryz_mixed fun P hP _ => ?_
  unfold rice_cheapest at h
  conv => cbv
  refine den_cut' (r := r) (rice_cheapest_K1 y1) (fun j1 => ⟨[(1, .sl 1 e_i64 y1), (4, .int .i64 (.v j1.1)), (5, .int .i64 (.lit 0)), (6, .int .i64 (.v j1.2))], [], []⟩) ?_ (fun j1 h => ?_)
  · conv => cbv
    refine den_call' hP h (fun _ h => v_rice_escape h) fun r6 _ h => ?_
    conv => cbv
    refine den_loop' (rice_cheapest_L2 y1 r6) h (fun a7 => ⟨[(1, .sl 1 e_i64 y1), (4, .int .i64 (.v a7.1)), (5, .int .i64 (.lit 0)), (6, .int .i64 (.v a7.2.1)), (14, .int .i64 (.v r6)), (15, .int .i64 (.v a7.2.2))], [], []⟩) (fun _ _ a7 x1 h hb1 hx1 => ?_)
    unfold rice_cheapest_L2 at h
    conv => cbv
    refine den_br h (fun _ h => ?_) (fun _ h => ?_)
    · conv => cbv
      refine den_cut' (r := x1) (rice_cheapest_K3 a7) (fun j8 => ⟨[(1, .sl 1 e_i64 y1), (4, .int .i64 (.v j8.1)), (5, .int .i64 (.lit 0)), (6, .int .i64 (.v j8.2)), (14, .int .i64 (.v r6)), (15, .int .i64 (.v a7.2.2))], [], []⟩) ?_ (fun j8 h => ?_)
      · conv => cbv
        refine .mk ?_
        conv => cbv
        refine den_call' hP h (fun _ h => v_rice_some h) fun r9 _ h => ?_
        conv => cbv
        refine .mk ?_
        conv => cbv
        refine den_br h (fun _ h => ?_) (fun _ h => ?_)
        · conv => cbv
          exact den_join' h
        conv => cbv
        exact den_join' h
      unfold rice_cheapest_K3 at h
      conv => cbv
      exact den_back' h hb1
    conv => cbv
    replace h := den_out h hx1
    exact den_join' h
  unfold rice_cheapest_K1 at h
  conv => cbv
  refine den_cut' (r := r) (rice_cheapest_K2 y1 j1) (fun j2 => ⟨[(1, .sl 1 e_i64 y1), (4, .int .i64 (.v j1.1)), (5, .int .i64 (.v j2)), (6, .int .i64 (.v j1.2))], [], []⟩) ?_ (fun j2 h => ?_)
  · conv => cbv
    refine den_loop' (rice_cheapest_L1 y1 j1) h (fun a3 => ⟨[(1, .sl 1 e_i64 y1), (4, .int .i64 (.v j1.1)), (5, .int .i64 (.v a3.1)), (6, .int .i64 (.v j1.2)), (37, .sl 1 e_i64 y1), (38, .int .i64 (.len y1)), (39, .int .i64 (.v a3.2))], [], []⟩) (fun _ _ a3 x1 h hb1 hx1 => ?_)
    unfold rice_cheapest_L1 at h
    conv => cbv
    refine den_br h (fun _ h => ?_) (fun _ h => ?_)
    · conv => cbv
      refine den_elem h fun p4 _ h => ?_
      conv => cbv
      refine den_call' hP h (fun _ h => v_rice_width h) fun r5 _ h => ?_
      conv => cbv
      exact den_back' h hb1
    conv => cbv
    replace h := den_out h hx1
    exact den_join' h
  unfold rice_cheapest_K2 at h
  conv => cbv
  refine .mk ?_
  conv => cbv
  refine .mk ?_
  conv => cbv
  refine den_br h (fun _ h => ?_) (fun _ h => ?_)
  · conv => cbv
    cases h
    exact .tup _ _ lp
  conv => cbv
  cases h
  exact .tup _ _ lp
def T_rice_Best : Tab := [(3, ⟨.int .i64, 1, 8, [.int .i64 (.lit 0)]⟩), (23, ⟨.arr 2 3, 2, 16, [.int .i64 (.lit 0), .int .i64 (.lit 0)]⟩), (30, ⟨.slice 3, 1, 24, [.nilsl]⟩), (34, ⟨.struct [(0, 3), (1, 3), (2, 30), (3, 30)], 4, 64, [.int .i64 (.lit 0), .int .i64 (.lit 0), .nilsl, .nilsl]⟩)]
theorem T_rice_Best_ok : TabOk Tryz.prog T_rice_Best := tab_ok [3, 23, 30, 34]
set_option maxHeartbeats 2000000 in
theorem v_rice_Best {y0 : Int} {y1 : Int} {y2 : List Int} {r : rice_Plan × Int} (h : rice_Best y0 y1 y2 = some r) : AVal Tryz.prog Gl 41 [e_i64 y0, e_i64 y1, (e_sl 1 e_i64) y2] (.tup [e_rice_Plan r.1, e_i64 r.2]) := by
  refine aval_of' T_rice_Best Gl 125 Tryz.func41 T_rice_Best_ok Tryz_mixed fun P hP _ => ?_
  unfold rice_Best at h
  conv => cbv
  refine .mk ?_
  conv => cbv
  refine den_br h (fun _ h => ?_) (fun _ h => ?_)
  · conv => cbv
    cases h
    exact .tup _ _ lp
  conv => cbv
  refine den_call' hP h (fun _ h => v_rice_head h) fun r1 _ h => ?_
  conv => cbv
  refine den_br h (fun _ h => ?_) (fun _ h => ?_)
  · conv => cbv
    cases h
    exact .tup _ _ lp
  conv => cbv
  refine den_cut' (r := r) (rice_Best_K1 y0 y1 y2) (fun j2 => ⟨[(0, .int .i64 (.v y0)), (1, .int .i64 (.v y1)), (5, .ptr 5 0), (6, .ptr 6 0), (7, .int .i64 (.lit 0)), (8, .int .i64 (.ar .add .i64 (.len y2) (.v y1)))], [(5, .var [.sl 1 e_i64 y2]), (6, .var [.int .i64 (.lit 0), .int .i64 (.lit 0), .nilsl, .nilsl])], []⟩) ?_ (fun j2 h => ?_)
  · conv => cbv
    refine den_loop' (rice_Best_L4 y0 y1 y2) h (fun a97 => ⟨[(0, .int .i64 (.v y0)), (1, .int .i64 (.v y1)), (5, .ptr 5 0), (6, .ptr 6 0), (7, .int .i64 (.lit 0)), (8, .int .i64 (.ar .add .i64 (.len y2) (.v y1))), (43, .sl 1 e_i64 y2), (44, .int .i64 (.len y2)), (45, .int .i64 (.v a97))], [(5, .var [.sl 1 e_i64 y2]), (6, .var [.int .i64 (.lit 0), .int .i64 (.lit 0), .nilsl, .nilsl])], []⟩) (fun _ _ a97 x1 h hb1 hx1 => ?_)
    unfold rice_Best_L4 at h
    conv => cbv
    refine den_br h (fun _ h => ?_) (fun _ h => ?_)
    · conv => cbv
      refine den_elem h fun p98 _ h => ?_
      conv => cbv
      refine .mk ?_
      conv => cbv
      refine den_call' hP h (fun _ h => v_rice_fold h) fun r99 _ h => ?_
      conv => cbv
      refine den_br h (fun _ h => ?_) (fun _ h => ?_)
      · conv => cbv
        replace h := den_out h hx1
        cases h
        exact .tup _ _ lp
      conv => cbv
      exact den_back' h hb1
    conv => cbv
    replace h := den_out h hx1
    exact den_join' h
  unfold rice_Best_K1 at h
  conv => cbv
  refine den_cut' (r := r) rice_Best_K2 (fun j3 => ⟨[(6, .ptr 6 0), (14, .ptr 14 0)], [(6, .var [.int .i64 (.lit 0), .int .i64 (.lit 0), .nilsl, .nilsl]), (14, .var [.int .i64 (.v j3.1), .int .i64 (.v j3.2.1), .sl 1 e_i64 j3.2.2.1, .sl 1 e_i64 j3.2.2.2])], []⟩) ?_ (fun j3 h => ?_)
  · conv => cbv
    refine den_loop' (rice_Best_L1 y0 y1 y2) h (fun a4 => ⟨[(0, .int .i64 (.v y0)), (1, .int .i64 (.v y1)), (5, .ptr 5 0), (6, .ptr 6 0), (7, .int .i64 (.lit 0)), (8, .int .i64 (.ar .add .i64 (.len y2) (.v y1))), (14, .ptr 14 0), (15, .int .i64 (.v a4.1)), (58, .int .i64 (.v a4.2.1))], [(5, .var [.sl 1 e_i64 y2]), (6, .var [.int .i64 (.lit 0), .int .i64 (.lit 0), .nilsl, .nilsl]), (14, .var [.int .i64 (.v a4.2.2.1), .int .i64 (.v a4.2.2.2.1), .sl 1 e_i64 a4.2.2.2.2.1, .sl 1 e_i64 a4.2.2.2.2.2])], []⟩) (fun _ _ a4 x1 h hb1 hx1 => ?_)
    unfold rice_Best_L1 at h
    conv => cbv
    refine den_br h (fun _ h => ?_) (fun _ h => ?_)
    · conv => cbv
      refine den_cut' (r := x1) (rice_Best_K3 a4) (fun j5 => ⟨[(0, .int .i64 (.v y0)), (1, .int .i64 (.v y1)), (5, .ptr 5 0), (6, .ptr 6 0), (7, .int .i64 (.lit 0)), (8, .int .i64 (.ar .add .i64 (.len y2) (.v y1))), (14, .ptr 14 0), (15, .int .i64 (.v j5.1)), (58, .int .i64 (.v a4.2.1))], [(5, .var [.sl 1 e_i64 y2]), (6, .var [.int .i64 (.lit 0), .int .i64 (.lit 0), .nilsl, .nilsl]), (14, .var [.int .i64 (.v j5.2.1), .int .i64 (.v j5.2.2.1), .sl 1 e_i64 j5.2.2.2.1, .sl 1 e_i64 j5.2.2.2.2])], []⟩) ?_ (fun j5 h => ?_)
      · conv => cbv
        refine den_loop' (rice_Best_L2 y0 y1 y2 a4) h (fun a6 => ⟨[(0, .int .i64 (.v y0)), (1, .int .i64 (.v y1)), (5, .ptr 5 0), (6, .ptr 6 0), (7, .int .i64 (.lit 0)), (8, .int .i64 (.ar .add .i64 (.len y2) (.v y1))), (14, .ptr 14 0), (15, .int .i64 (.v a6.1)), (16, .ptr 16 0), (58, .int .i64 (.v a4.2.1)), (62, .int .i64 (.ar .add .i64 (.v y0) (.lit 1))), (63, .int .i64 (.v a6.2.1))], [(5, .var [.sl 1 e_i64 y2]), (6, .var [.int .i64 (.lit 0), .int .i64 (.lit 0), .nilsl, .nilsl]), (14, .var [.int .i64 (.v a6.2.2.1), .int .i64 (.v a6.2.2.2.1), .sl 1 e_i64 a6.2.2.2.2.1, .sl 1 e_i64 a6.2.2.2.2.2]), (16, .var [.int .i64 (.v a4.2.1)])], []⟩) (fun _ _ a6 x2 h hb2 hx2 => ?_)
        unfold rice_Best_L2 at h
        conv => cbv
        refine den_br h (fun _ h => ?_) (fun _ h => ?_)
        · conv => cbv
          refine den_cut' (r := x2) (rice_Best_K4 a6) (fun j7 => ⟨[(0, .int .i64 (.v y0)), (1, .int .i64 (.v y1)), (5, .ptr 5 0), (6, .ptr 6 0), (7, .int .i64 (.lit 0)), (8, .int .i64 (.ar .add .i64 (.len y2) (.v y1))), (14, .ptr 14 0), (15, .int .i64 (.v j7.1)), (16, .ptr 16 0), (58, .int .i64 (.v a4.2.1)), (62, .int .i64 (.ar .add .i64 (.v y0) (.lit 1))), (63, .int .i64 (.v a6.2.1))], [(5, .var [.sl 1 e_i64 y2]), (6, .var [.int .i64 (.lit 0), .int .i64 (.lit 0), .nilsl, .nilsl]), (14, .var [.int .i64 (.v j7.2.1), .int .i64 (.v j7.2.2.1), .sl 1 e_i64 j7.2.2.2.1, .sl 1 e_i64 j7.2.2.2.2]), (16, .var [.int .i64 (.v a4.2.1)])], []⟩) ?_ (fun j7 h => ?_)
          · conv => cbv
            refine .mk ?_
            conv => cbv
            refine den_call' hP h (fun _ h => v_rice_head h) fun r8 _ h => ?_
            conv => cbv
            refine den_br h (fun _ h => ?_) (fun _ h => ?_)
            · conv => cbv
              exact den_join' h
            conv => cbv
            refine den_cut' (r := x2) (rice_Best_K5 a4 a6) (fun j9 => ⟨[(0, .int .i64 (.v y0)), (1, .int .i64 (.v y1)), (5, .ptr 5 0), (6, .ptr 6 0), (7, .int .i64 (.lit 0)), (8, .int .i64 (.ar .add .i64 (.len y2) (.v y1))), (14, .ptr 14 0), (15, .int .i64 (.v a6.1)), (16, .ptr 16 0), (18, .ptr 18 0), (19, .ptr 19 0), (58, .int .i64 (.v a4.2.1)), (62, .int .i64 (.ar .add .i64 (.v y0) (.lit 1))), (63, .int .i64 (.v a6.2.1))], [(5, .var [.sl 1 e_i64 y2]), (6, .var [.int .i64 (.lit 0), .int .i64 (.lit 0), .nilsl, .nilsl]), (14, .var [.int .i64 (.v a6.2.2.1), .int .i64 (.v a6.2.2.2.1), .sl 1 e_i64 a6.2.2.2.2.1, .sl 1 e_i64 a6.2.2.2.2.2]), (16, .var [.int .i64 (.v a4.2.1)]), (18, .var [.int .i64 (.v a4.2.1), .int .i64 (.v a6.2.1), .osl 9162, .osl 9163]), (19, .var [.int .i64 (.v j9.1)]), (9162, .arr false 3 1 e_i64 j9.2.1), (9163, .arr false 3 1 e_i64 j9.2.2)], []⟩) ?_ (fun j9 h => ?_)
            · conv => cbv
              obtain ⟨t10, ht10, h⟩ := den_let h
              refine den_own' (ho := True.intro) [] [] hP h (fun _ h => x_rice_parts h) fun r11 _ h => ?_
              conv => cbv
              refine den_bind h fun e12 hse12 h => ?_
              refine den_fold (step := (rice_Best_L3 y2 a4)) (done := (rice_Best_K7 a4 a6)) (ret := (rice_Best_K8 a6)) h (fun p13 : Int × (Arr2 Int) => [.int .i64 (.v p13.1), .agg [.int .i64 (.v p13.2.a0), .int .i64 (.v p13.2.a1)]]) (fun a14 : Int × (List Int) × (List Int) => ⟨[(0, .int .i64 (.v y0)), (1, .int .i64 (.v y1)), (5, .ptr 5 0), (6, .ptr 6 0), (7, .int .i64 (.lit 0)), (8, .int .i64 (.ar .add .i64 (.len y2) (.v y1))), (14, .ptr 14 0), (15, .int .i64 (.v a6.1)), (16, .ptr 16 0), (18, .ptr 18 0), (19, .ptr 19 0), (58, .int .i64 (.v a4.2.1)), (62, .int .i64 (.ar .add .i64 (.v y0) (.lit 1))), (63, .int .i64 (.v a6.2.1))], [(5, .var [.sl 1 e_i64 y2]), (6, .var [.int .i64 (.lit 0), .int .i64 (.lit 0), .nilsl, .nilsl]), (14, .var [.int .i64 (.v a6.2.2.1), .int .i64 (.v a6.2.2.2.1), .sl 1 e_i64 a6.2.2.2.2.1, .sl 1 e_i64 a6.2.2.2.2.2]), (16, .var [.int .i64 (.v a4.2.1)]), (18, .var [.int .i64 (.v a4.2.1), .int .i64 (.v a6.2.1), .osl 9162, .osl 9163]), (19, .var [.int .i64 (.v a14.1)]), (9162, .arr false 3 1 e_i64 a14.2.1), (9163, .arr false 3 1 e_i64 a14.2.2)], []⟩) (fun b15 : Int × (List Int) × (List Int) => ⟨[(0, .int .i64 (.v y0)), (1, .int .i64 (.v y1)), (5, .ptr 5 0), (6, .ptr 6 0), (7, .int .i64 (.lit 0)), (8, .int .i64 (.ar .add .i64 (.len y2) (.v y1))), (14, .ptr 14 0), (15, .int .i64 (.v a6.1)), (16, .ptr 16 0), (18, .ptr 18 0), (19, .ptr 19 0), (58, .int .i64 (.v a4.2.1)), (62, .int .i64 (.ar .add .i64 (.v y0) (.lit 1))), (63, .int .i64 (.v a6.2.1))], [(5, .var [.sl 1 e_i64 y2]), (6, .var [.int .i64 (.lit 0), .int .i64 (.lit 0), .nilsl, .nilsl]), (14, .var [.int .i64 (.v a6.2.2.1), .int .i64 (.v a6.2.2.2.1), .sl 1 e_i64 a6.2.2.2.2.1, .sl 1 e_i64 a6.2.2.2.2.2]), (16, .var [.int .i64 (.v a4.2.1)]), (18, .var [.int .i64 (.v a4.2.1), .int .i64 (.v a6.2.1), .osl 9162, .osl 9163]), (19, .var [.int .i64 (.v b15.1)]), (9162, .arr false 3 1 e_i64 b15.2.1), (9163, .arr false 3 1 e_i64 b15.2.2)], []⟩) 6 88 [.rptr [.int .i64 (.v t10)], .rptr [.int .i64 (.v a6.2.1)], .rptr [.int .i64 (.v y1)]] rfl rfl (hP ▸ it_parts hse12) (fun _ => ⟨rfl, rfl⟩) ?_ (fun p13 a14 x3 h => ?_) (fun b15 h => ?_) (fun a14 h => ?_)
              · conv => cbv
                exact ⟨⟨.same _, .same _, .same _, .same _, .var _ _ (.cons _ _ _ _ (.same _) (.cons _ _ _ _ (.same _) (.cons _ _ _ _ (.own _ _ _ _ _ _ rfl rfl) (.cons _ _ _ _ (.own _ _ _ _ _ _ rfl rfl) .nil)))), .var _ _ lp, .arr _ _ _ _ _ _ rfl, .arr _ _ _ _ _ _ rfl, trivial⟩, .same _, .same _, .same _, .same _, .same _, .same _, .same _, .same _, .same _, .same _, .same _, .same _, .same _, .same _, trivial⟩
              · refine den_round 6 [(5, 10005, false), (6, 10006, false), (14, 10014, false), (16, 10016, false), (18, 10018, false), (19, 10019, false), (9162, 19162, true), (9163, 19163, true)] _ [(10005, .var [.sl 1 e_i64 y2]), (10006, .var [.int .i64 (.lit 0), .int .i64 (.lit 0), .nilsl, .nilsl]), (10014, .var [.int .i64 (.v a6.2.2.1), .int .i64 (.v a6.2.2.2.1), .sl 1 e_i64 a6.2.2.2.2.1, .sl 1 e_i64 a6.2.2.2.2.2]), (10016, .var [.int .i64 (.v a4.2.1)]), (10018, .var [.int .i64 (.v a4.2.1), .int .i64 (.v a6.2.1), .osl 19162, .osl 19163]), (10019, .var [.int .i64 (.v a14.1)]), (19162, .arr false 3 1 e_i64 a14.2.1), (19163, .arr false 3 1 e_i64 a14.2.2)] (fun a14 : Int × (List Int) × (List Int) => [(10005, .var [.sl 1 e_i64 y2]), (10006, .var [.int .i64 (.lit 0), .int .i64 (.lit 0), .nilsl, .nilsl]), (10014, .var [.int .i64 (.v a6.2.2.1), .int .i64 (.v a6.2.2.2.1), .sl 1 e_i64 a6.2.2.2.2.1, .sl 1 e_i64 a6.2.2.2.2.2]), (10016, .var [.int .i64 (.v a4.2.1)]), (10018, .var [.int .i64 (.v a4.2.1), .int .i64 (.v a6.2.1), .osl 19162, .osl 19163]), (10019, .var [.int .i64 (.v a14.1)]), (19162, .arr false 3 1 e_i64 a14.2.1), (19163, .arr false 3 1 e_i64 a14.2.2)]) (fun b15 : Int × (List Int) × (List Int) => [(10005, .var [.sl 1 e_i64 y2]), (10006, .var [.int .i64 (.lit 0), .int .i64 (.lit 0), .nilsl, .nilsl]), (10014, .var [.int .i64 (.v a6.2.2.1), .int .i64 (.v a6.2.2.2.1), .sl 1 e_i64 a6.2.2.2.2.1, .sl 1 e_i64 a6.2.2.2.2.2]), (10016, .var [.int .i64 (.v a4.2.1)]), (10018, .var [.int .i64 (.v a4.2.1), .int .i64 (.v a6.2.1), .osl 19162, .osl 19163]), (10019, .var [.int .i64 (.v b15.1)]), (19162, .arr false 3 1 e_i64 b15.2.1), (19163, .arr false 3 1 e_i64 b15.2.2)]) (LePl.refl _ _) (fun _ => rfl) (fun _ => rfl) rfl (by (conv => cbv); exact ⟨.same _, .same _, .same _, .same _, .same _, .same _, .same _, .same _, trivial⟩) ?_ (fun a14 => ?_) (fun b15 => ?_)
                · refine round_of (c := ⟨T_rice_Best, Gl, 125, [10005, 10006, 10014, 10016, 10018, 10019], []⟩) rfl (hP ▸ T_rice_Best_ok) (by rw [hP]; exact eqsOk_of (by kernel_rfl)) (by rw [hP]; exact Tryz_mixed) rfl rfl rfl rfl rfl ?_ fun P hP2 _ => ?_
                  · cases x3 <;> rfl
                  have hP := hP2.trans hP
                  unfold rice_Best_L3 at h
                  conv => cbv
                  refine .dup ?_
                  conv => cbv
                  refine .mk (some []) (by kernel_rfl) ?_
                  conv => cbv
                  refine .mk ?_
                  conv => cbv
                  refine den_sub h fun l16 _ h => ?_
                  conv => cbv
                  refine den_call' hP h (fun _ h => v_rice_cheapest h) fun r17 _ h => ?_
                  conv => cbv
                  refine .mk ?_
                  conv => cbv
                  refine den_br h (fun _ h => ?_) (fun _ h => ?_)
                  · conv => cbv
                    obtain ⟨t0, ht0, rfl⟩ := den_inr h
                    conv => cbv
                    refine .mk [(10005, 10005, false), (10006, 10006, false), (10014, 10014, false), (10016, 10016, false), (10018, 10018, false), (10019, 10019, false), (19162, 19162, false), (19163, 19163, false)] [] rfl rfl ?_ ?_
                    · conv => cbv
                      subst ht0
                      exact ⟨.same _, .same _, .same _, .same _, .same _, .var _ _ lp, .arr _ _ _ _ _ _ rfl, .arr _ _ _ _ _ _ rfl, trivial⟩
                    conv => cbv
                    exact lp
                  conv => cbv
                  refine den_cut' (r := x3) (rice_Best_K6 a4 a14 r17) (fun j18 => ⟨[(5, .ptr 10005 0), (6, .ptr 10006 0), (14, .ptr 10014 0), (16, .ptr 10016 0), (18, .ptr 10018 0), (19, .ptr 10019 0), (24, .int .i64 (.v r17.2.2))], [(10005, .var [.sl 1 e_i64 y2]), (10006, .var [.int .i64 (.lit 0), .int .i64 (.lit 0), .nilsl, .nilsl]), (10014, .var [.int .i64 (.v a6.2.2.1), .int .i64 (.v a6.2.2.2.1), .sl 1 e_i64 a6.2.2.2.2.1, .sl 1 e_i64 a6.2.2.2.2.2]), (10016, .var [.int .i64 (.v a4.2.1)]), (10018, .var [.int .i64 (.v a4.2.1), .int .i64 (.v a6.2.1), .osl 19162, .osl 19163]), (10019, .var [.int .i64 (.v a14.1)]), (19162, .arr false 3 1 e_i64 j18.1), (19163, .arr false 3 1 e_i64 j18.2)], []⟩) ?_ (fun j18 h => ?_)
                  · conv => cbv
                    refine .mk (some [10018, 19162, 19163]) (by kernel_rfl) ?_
                    conv => cbv
                    refine ⟨?_, ?_, ?_, ?_⟩
                    · refine .mk ?_
                      conv => cbv
                      refine ⟨?_, ?_, ?_⟩
                      · refine .data ?_
                        conv => cbv
                        refine ⟨?_, ?_, ?_⟩
                        · refine den_app_own e_i64 (xs := [r17.1]) h rfl lp fun l19 _ h => ?_
                          conv => cbv
                          refine ⟨?_, ?_⟩
                          · refine .data ?_
                            conv => cbv
                            refine den_app_own e_i64 (xs := [r17.2.1]) h rfl lp fun l20 _ h => ?_
                            conv => cbv
                            refine .mk ?_
                            conv => cbv
                            exact den_join' h
                          · refine .data ?_
                            conv => cbv
                            refine den_app_own e_i64 (xs := [r17.2.1]) h rfl lp fun l21 _ h => ?_
                            conv => cbv
                            refine .mk ?_
                            conv => cbv
                            exact den_join' h
                        · refine ⟨?_, ?_⟩
                          · refine den_app_own e_i64 (xs := [r17.1]) h rfl lp fun l22 _ h => ?_
                            conv => cbv
                            refine .data ?_
                            conv => cbv
                            refine den_app_own e_i64 (xs := [r17.2.1]) h rfl lp fun l23 _ h => ?_
                            conv => cbv
                            refine .mk ?_
                            conv => cbv
                            exact den_join' h
                          · refine .data ?_
                            conv => cbv
                            refine den_app_own e_i64 (xs := [r17.1]) h rfl lp fun l24 _ h => ?_
                            conv => cbv
                            refine den_app_own e_i64 (xs := [r17.2.1]) h rfl lp fun l25 _ h => ?_
                            conv => cbv
                            refine .mk ?_
                            conv => cbv
                            exact den_join' h
                        · refine .data ?_
                          conv => cbv
                          refine ⟨?_, ?_⟩
                          · refine den_app_own e_i64 (xs := [r17.1]) h rfl lp fun l26 _ h => ?_
                            conv => cbv
                            refine den_app_own e_i64 (xs := [r17.2.1]) h rfl lp fun l27 _ h => ?_
                            conv => cbv
                            refine .mk ?_
                            conv => cbv
                            exact den_join' h
                          · refine den_app_own e_i64 (xs := [r17.1]) h rfl lp fun l28 _ h => ?_
                            conv => cbv
                            refine den_app_own e_i64 (xs := [r17.2.1]) h rfl lp fun l29 _ h => ?_
                            conv => cbv
                            refine .mk ?_
                            conv => cbv
                            exact den_join' h
                      · refine ⟨?_, ?_⟩
                        · refine .data ?_
                          conv => cbv
                          refine ⟨?_, ?_⟩
                          · refine den_app_own e_i64 (xs := [r17.1]) h rfl lp fun l30 _ h => ?_
                            conv => cbv
                            refine .data ?_
                            conv => cbv
                            refine den_app_own e_i64 (xs := [r17.2.1]) h rfl lp fun l31 _ h => ?_
                            conv => cbv
                            refine .mk ?_
                            conv => cbv
                            exact den_join' h
                          · refine .data ?_
                            conv => cbv
                            refine den_app_own e_i64 (xs := [r17.1]) h rfl lp fun l32 _ h => ?_
                            conv => cbv
                            refine den_app_own e_i64 (xs := [r17.2.1]) h rfl lp fun l33 _ h => ?_
                            conv => cbv
                            refine .mk ?_
                            conv => cbv
                            exact den_join' h
                        · refine .data ?_
                          conv => cbv
                          refine .data ?_
                          conv => cbv
                          refine den_app_own e_i64 (xs := [r17.1]) h rfl lp fun l34 _ h => ?_
                          conv => cbv
                          refine den_app_own e_i64 (xs := [r17.2.1]) h rfl lp fun l35 _ h => ?_
                          conv => cbv
                          refine .mk ?_
                          conv => cbv
                          exact den_join' h
                      · refine .data ?_
                        conv => cbv
                        refine ⟨?_, ?_⟩
                        · refine .data ?_
                          conv => cbv
                          refine ⟨?_, ?_⟩
                          · refine den_app_own e_i64 (xs := [r17.1]) h rfl lp fun l36 _ h => ?_
                            conv => cbv
                            refine den_app_own e_i64 (xs := [r17.2.1]) h rfl lp fun l37 _ h => ?_
                            conv => cbv
                            refine .mk ?_
                            conv => cbv
                            exact den_join' h
                          · refine den_app_own e_i64 (xs := [r17.1]) h rfl lp fun l38 _ h => ?_
                            conv => cbv
                            refine den_app_own e_i64 (xs := [r17.2.1]) h rfl lp fun l39 _ h => ?_
                            conv => cbv
                            refine .mk ?_
                            conv => cbv
                            exact den_join' h
                        · refine .data ?_
                          conv => cbv
                          refine den_app_own e_i64 (xs := [r17.1]) h rfl lp fun l40 _ h => ?_
                          conv => cbv
                          refine den_app_own e_i64 (xs := [r17.2.1]) h rfl lp fun l41 _ h => ?_
                          conv => cbv
                          refine .mk ?_
                          conv => cbv
                          exact den_join' h
                    · refine .data ?_
                      conv => cbv
                      refine .mk ?_
                      conv => cbv
                      refine ⟨?_, ?_, ?_⟩
                      · refine ⟨?_, ?_, ?_⟩
                        · refine den_app_own e_i64 (xs := [r17.1]) h rfl lp fun l42 _ h => ?_
                          conv => cbv
                          refine ⟨?_, ?_⟩
                          · refine .data ?_
                            conv => cbv
                            refine den_app_own e_i64 (xs := [r17.2.1]) h rfl lp fun l43 _ h => ?_
                            conv => cbv
                            refine .mk ?_
                            conv => cbv
                            exact den_join' h
                          · refine .data ?_
                            conv => cbv
                            refine den_app_own e_i64 (xs := [r17.2.1]) h rfl lp fun l44 _ h => ?_
                            conv => cbv
                            refine .mk ?_
                            conv => cbv
                            exact den_join' h
                        · refine ⟨?_, ?_⟩
                          · refine den_app_own e_i64 (xs := [r17.1]) h rfl lp fun l45 _ h => ?_
                            conv => cbv
                            refine .data ?_
                            conv => cbv
                            refine den_app_own e_i64 (xs := [r17.2.1]) h rfl lp fun l46 _ h => ?_
                            conv => cbv
                            refine .mk ?_
                            conv => cbv
                            exact den_join' h
                          · refine .data ?_
                            conv => cbv
                            refine den_app_own e_i64 (xs := [r17.1]) h rfl lp fun l47 _ h => ?_
                            conv => cbv
                            refine den_app_own e_i64 (xs := [r17.2.1]) h rfl lp fun l48 _ h => ?_
                            conv => cbv
                            refine .mk ?_
                            conv => cbv
                            exact den_join' h
                        · refine .data ?_
                          conv => cbv
                          refine ⟨?_, ?_⟩
                          · refine den_app_own e_i64 (xs := [r17.1]) h rfl lp fun l49 _ h => ?_
                            conv => cbv
                            refine den_app_own e_i64 (xs := [r17.2.1]) h rfl lp fun l50 _ h => ?_
                            conv => cbv
                            refine .mk ?_
                            conv => cbv
                            exact den_join' h
                          · refine den_app_own e_i64 (xs := [r17.1]) h rfl lp fun l51 _ h => ?_
                            conv => cbv
                            refine den_app_own e_i64 (xs := [r17.2.1]) h rfl lp fun l52 _ h => ?_
                            conv => cbv
                            refine .mk ?_
                            conv => cbv
                            exact den_join' h
                      · refine ⟨?_, ?_⟩
                        · refine ⟨?_, ?_⟩
                          · refine den_app_own e_i64 (xs := [r17.1]) h rfl lp fun l53 _ h => ?_
                            conv => cbv
                            refine .data ?_
                            conv => cbv
                            refine den_app_own e_i64 (xs := [r17.2.1]) h rfl lp fun l54 _ h => ?_
                            conv => cbv
                            refine .mk ?_
                            conv => cbv
                            exact den_join' h
                          · refine .data ?_
                            conv => cbv
                            refine den_app_own e_i64 (xs := [r17.1]) h rfl lp fun l55 _ h => ?_
                            conv => cbv
                            refine den_app_own e_i64 (xs := [r17.2.1]) h rfl lp fun l56 _ h => ?_
                            conv => cbv
                            refine .mk ?_
                            conv => cbv
                            exact den_join' h
                        · refine .data ?_
                          conv => cbv
                          refine den_app_own e_i64 (xs := [r17.1]) h rfl lp fun l57 _ h => ?_
                          conv => cbv
                          refine den_app_own e_i64 (xs := [r17.2.1]) h rfl lp fun l58 _ h => ?_
                          conv => cbv
                          refine .mk ?_
                          conv => cbv
                          exact den_join' h
                      · refine .data ?_
                        conv => cbv
                        refine ⟨?_, ?_⟩
                        · refine ⟨?_, ?_⟩
                          · refine den_app_own e_i64 (xs := [r17.1]) h rfl lp fun l59 _ h => ?_
                            conv => cbv
                            refine den_app_own e_i64 (xs := [r17.2.1]) h rfl lp fun l60 _ h => ?_
                            conv => cbv
                            refine .mk ?_
                            conv => cbv
                            exact den_join' h
                          · refine den_app_own e_i64 (xs := [r17.1]) h rfl lp fun l61 _ h => ?_
                            conv => cbv
                            refine den_app_own e_i64 (xs := [r17.2.1]) h rfl lp fun l62 _ h => ?_
                            conv => cbv
                            refine .mk ?_
                            conv => cbv
                            exact den_join' h
                        · refine den_app_own e_i64 (xs := [r17.1]) h rfl lp fun l63 _ h => ?_
                          conv => cbv
                          refine den_app_own e_i64 (xs := [r17.2.1]) h rfl lp fun l64 _ h => ?_
                          conv => cbv
                          refine .mk ?_
                          conv => cbv
                          exact den_join' h
                    · refine .mk ?_
                      conv => cbv
                      refine ⟨?_, ?_, ?_⟩
                      · refine ⟨?_, ?_⟩
                        · refine .data ?_
                          conv => cbv
                          refine ⟨?_, ?_⟩
                          · refine den_app_own e_i64 (xs := [r17.1]) h rfl lp fun l65 _ h => ?_
                            conv => cbv
                            refine .data ?_
                            conv => cbv
                            refine den_app_own e_i64 (xs := [r17.2.1]) h rfl lp fun l66 _ h => ?_
                            conv => cbv
                            refine .mk ?_
                            conv => cbv
                            exact den_join' h
                          · refine .data ?_
                            conv => cbv
                            refine den_app_own e_i64 (xs := [r17.1]) h rfl lp fun l67 _ h => ?_
                            conv => cbv
                            refine den_app_own e_i64 (xs := [r17.2.1]) h rfl lp fun l68 _ h => ?_
                            conv => cbv
                            refine .mk ?_
                            conv => cbv
                            exact den_join' h
                        · refine .data ?_
                          conv => cbv
                          refine .data ?_
                          conv => cbv
                          refine den_app_own e_i64 (xs := [r17.1]) h rfl lp fun l69 _ h => ?_
                          conv => cbv
                          refine den_app_own e_i64 (xs := [r17.2.1]) h rfl lp fun l70 _ h => ?_
                          conv => cbv
                          refine .mk ?_
                          conv => cbv
                          exact den_join' h
                      · refine .data ?_
                        conv => cbv
                        refine ⟨?_, ?_⟩
                        · refine ⟨?_, ?_⟩
                          · refine den_app_own e_i64 (xs := [r17.1]) h rfl lp fun l71 _ h => ?_
                            conv => cbv
                            refine .data ?_
                            conv => cbv
                            refine den_app_own e_i64 (xs := [r17.2.1]) h rfl lp fun l72 _ h => ?_
                            conv => cbv
                            refine .mk ?_
                            conv => cbv
                            exact den_join' h
                          · refine .data ?_
                            conv => cbv
                            refine den_app_own e_i64 (xs := [r17.1]) h rfl lp fun l73 _ h => ?_
                            conv => cbv
                            refine den_app_own e_i64 (xs := [r17.2.1]) h rfl lp fun l74 _ h => ?_
                            conv => cbv
                            refine .mk ?_
                            conv => cbv
                            exact den_join' h
                        · refine .data ?_
                          conv => cbv
                          refine den_app_own e_i64 (xs := [r17.1]) h rfl lp fun l75 _ h => ?_
                          conv => cbv
                          refine den_app_own e_i64 (xs := [r17.2.1]) h rfl lp fun l76 _ h => ?_
                          conv => cbv
                          refine .mk ?_
                          conv => cbv
                          exact den_join' h
                      · refine .data ?_
                        conv => cbv
                        refine ⟨?_, ?_⟩
                        · refine .data ?_
                          conv => cbv
                          refine den_app_own e_i64 (xs := [r17.1]) h rfl lp fun l77 _ h => ?_
                          conv => cbv
                          refine den_app_own e_i64 (xs := [r17.2.1]) h rfl lp fun l78 _ h => ?_
                          conv => cbv
                          refine .mk ?_
                          conv => cbv
                          exact den_join' h
                        · refine .data ?_
                          conv => cbv
                          refine den_app_own e_i64 (xs := [r17.1]) h rfl lp fun l79 _ h => ?_
                          conv => cbv
                          refine den_app_own e_i64 (xs := [r17.2.1]) h rfl lp fun l80 _ h => ?_
                          conv => cbv
                          refine .mk ?_
                          conv => cbv
                          exact den_join' h
                    · refine .data ?_
                      conv => cbv
                      refine .mk ?_
                      conv => cbv
                      refine ⟨?_, ?_, ?_⟩
                      · refine ⟨?_, ?_⟩
                        · refine .data ?_
                          conv => cbv
                          refine ⟨?_, ?_⟩
                          · refine den_app_own e_i64 (xs := [r17.1]) h rfl lp fun l81 _ h => ?_
                            conv => cbv
                            refine den_app_own e_i64 (xs := [r17.2.1]) h rfl lp fun l82 _ h => ?_
                            conv => cbv
                            refine .mk ?_
                            conv => cbv
                            exact den_join' h
                          · refine den_app_own e_i64 (xs := [r17.1]) h rfl lp fun l83 _ h => ?_
                            conv => cbv
                            refine den_app_own e_i64 (xs := [r17.2.1]) h rfl lp fun l84 _ h => ?_
                            conv => cbv
                            refine .mk ?_
                            conv => cbv
                            exact den_join' h
                        · refine .data ?_
                          conv => cbv
                          refine den_app_own e_i64 (xs := [r17.1]) h rfl lp fun l85 _ h => ?_
                          conv => cbv
                          refine den_app_own e_i64 (xs := [r17.2.1]) h rfl lp fun l86 _ h => ?_
                          conv => cbv
                          refine .mk ?_
                          conv => cbv
                          exact den_join' h
                      · refine .data ?_
                        conv => cbv
                        refine ⟨?_, ?_⟩
                        · refine ⟨?_, ?_⟩
                          · refine den_app_own e_i64 (xs := [r17.1]) h rfl lp fun l87 _ h => ?_
                            conv => cbv
                            refine den_app_own e_i64 (xs := [r17.2.1]) h rfl lp fun l88 _ h => ?_
                            conv => cbv
                            refine .mk ?_
                            conv => cbv
                            exact den_join' h
                          · refine den_app_own e_i64 (xs := [r17.1]) h rfl lp fun l89 _ h => ?_
                            conv => cbv
                            refine den_app_own e_i64 (xs := [r17.2.1]) h rfl lp fun l90 _ h => ?_
                            conv => cbv
                            refine .mk ?_
                            conv => cbv
                            exact den_join' h
                        · refine den_app_own e_i64 (xs := [r17.1]) h rfl lp fun l91 _ h => ?_
                          conv => cbv
                          refine den_app_own e_i64 (xs := [r17.2.1]) h rfl lp fun l92 _ h => ?_
                          conv => cbv
                          refine .mk ?_
                          conv => cbv
                          exact den_join' h
                      · refine ⟨?_, ?_⟩
                        · refine .data ?_
                          conv => cbv
                          refine den_app_own e_i64 (xs := [r17.1]) h rfl lp fun l93 _ h => ?_
                          conv => cbv
                          refine den_app_own e_i64 (xs := [r17.2.1]) h rfl lp fun l94 _ h => ?_
                          conv => cbv
                          refine .mk ?_
                          conv => cbv
                          exact den_join' h
                        · refine .data ?_
                          conv => cbv
                          refine den_app_own e_i64 (xs := [r17.1]) h rfl lp fun l95 _ h => ?_
                          conv => cbv
                          refine den_app_own e_i64 (xs := [r17.2.1]) h rfl lp fun l96 _ h => ?_
                          conv => cbv
                          refine .mk ?_
                          conv => cbv
                          exact den_join' h
                  unfold rice_Best_K6 at h
                  conv => cbv
                  refine .mk ?_
                  conv => cbv
                  obtain ⟨t0, ht0, rfl⟩ := den_inl h
                  conv => cbv
                  refine .mk [(10005, 10005, false), (10006, 10006, false), (10014, 10014, false), (10016, 10016, false), (10018, 10018, false), (10019, 10019, false), (19162, 19162, false), (19163, 19163, false)] [] rfl rfl ?_ ?_
                  · conv => cbv
                    subst ht0
                    exact ⟨.same _, .same _, .same _, .same _, .same _, .var _ _ lp, .arr _ _ _ _ _ _ rfl, .arr _ _ _ _ _ _ rfl, trivial⟩
                  conv => cbv
                  exact lp
                · conv => cbv
                  exact lp
                · conv => cbv
                  exact lp
              · unfold rice_Best_K8 at h
                conv => cbv
                exact den_join' h
              · unfold rice_Best_K7 at h
                conv => cbv
                exact den_join' h
            unfold rice_Best_K5 at h
            conv => cbv
            refine .mk ?_
            conv => cbv
            refine den_br h (fun _ h => ?_) (fun _ h => ?_)
            · conv => cbv
              refine .mk (some [14]) (by kernel_rfl) ?_
              conv => cbv
              exact den_join' h
            conv => cbv
            exact den_join' h
          unfold rice_Best_K4 at h
          conv => cbv
          exact den_back' h hb2
        conv => cbv
        replace h := den_out h hx2
        exact den_join' h
      unfold rice_Best_K3 at h
      conv => cbv
      exact den_back' h hb1
    conv => cbv
    replace h := den_out h hx1
    exact den_join' h
  unfold rice_Best_K2 at h
  conv => cbv
  cases h
  exact .tup _ _ lp
def T_rice_Check : Tab := [(3, ⟨.int .i64, 1, 8, [.int .i64 (.lit 0)]⟩), (30, ⟨.slice 3, 1, 24, [.nilsl]⟩), (34, ⟨.struct [(0, 3), (1, 3), (2, 30), (3, 30)], 4, 64, [.int .i64 (.lit 0), .int .i64 (.lit 0), .nilsl, .nilsl]⟩)]
theorem T_rice_Check_ok : TabOk Tryz.prog T_rice_Check := tab_ok [3, 30, 34]
theorem v_rice_Check {y0 : rice_Plan} {y1 : Int} {y2 : Int} {r : Int} (h : rice_Check y0 y1 y2 = some r) : AVal Tryz.prog Gl 72 [e_rice_Plan y0, e_i64 y1, e_i64 y2] (e_i64 r) := by
  refine aval_of' T_rice_Check Gl 82 Tryz.func72 T_rice_Check_ok Tryz_mixed fun P hP _ => ?_
  unfold rice_Check at h
  conv => cbv
  refine .mk ?_
  conv => cbv
  refine den_call' hP h (fun _ h => v_rice_head h) fun r1 _ h => ?_
  conv => cbv
  refine den_br h (fun _ h => ?_) (fun _ h => ?_)
  · conv => cbv
    cases h
    exact lp
  conv => cbv
  refine den_cut' (r := r) (rice_Check_K1 y0) (fun j2 => ⟨[(3, .ptr 3 0), (35, .bool (.v j2))], [(3, .var [.int .i64 (.v y0.Method), .int .i64 (.v y0.Order), .sl 1 e_i64 y0.Params, .sl 1 e_i64 y0.Bits])], []⟩) ?_ (fun j2 h => ?_)
  · conv => cbv
    refine .mk (some []) (by kernel_rfl) ?_
    conv => cbv
    refine .mk ?_
    conv => cbv
    refine den_chk h fun h => ?_
    conv => cbv
    refine .mk ?_
    conv => cbv
    refine den_br h (fun _ h => ?_) (fun _ h => ?_)
    · conv => cbv
      exact den_join' h
    conv => cbv
    refine den_chk h fun h => ?_
    conv => cbv
    exact den_join' h
  unfold rice_Check_K1 at h
  conv => cbv
  refine den_br h (fun _ h => ?_) (fun _ h => ?_)
  · conv => cbv
    cases h
    exact lp
  conv => cbv
  refine den_cut' (r := r) rice_Check_K2 (fun j3 => ⟨[], [], []⟩) ?_ (fun j3 h => ?_)
  · conv => cbv
    refine den_loop' (rice_Check_L1 y0) h (fun a4 => ⟨[(3, .ptr 3 0), (37, .sl 1 e_i64 y0.Params), (38, .int .i64 (.len y0.Params)), (39, .int .i64 (.v a4))], [(3, .var [.int .i64 (.v y0.Method), .int .i64 (.v y0.Order), .sl 1 e_i64 y0.Params, .sl 1 e_i64 y0.Bits])], []⟩) (fun _ _ a4 x1 h hb1 hx1 => ?_)
    unfold rice_Check_L1 at h
    conv => cbv
    refine den_br h (fun _ h => ?_) (fun _ h => ?_)
    · conv => cbv
      refine den_cut' (r := x1) (rice_Check_K3 a4) (fun j5 => ⟨[(3, .ptr 3 0), (37, .sl 1 e_i64 y0.Params), (38, .int .i64 (.len y0.Params)), (39, .int .i64 (.v a4))], [(3, .var [.int .i64 (.v y0.Method), .int .i64 (.v y0.Order), .sl 1 e_i64 y0.Params, .sl 1 e_i64 y0.Bits])], []⟩) ?_ (fun j5 h => ?_)
      · conv => cbv
        refine den_elem h fun p6 _ h => ?_
        conv => cbv
        refine .mk ?_
        conv => cbv
        refine den_br h (fun _ h => ?_) (fun _ h => ?_)
        · conv => cbv
          refine den_elem h fun p7 _ h => ?_
          conv => cbv
          refine .mk ?_
          conv => cbv
          refine .mk ?_
          conv => cbv
          refine den_br h (fun _ h => ?_) (fun _ h => ?_)
          · conv => cbv
            refine den_elem h fun p8 _ h => ?_
            conv => cbv
            refine den_br h (fun _ h => ?_) (fun _ h => ?_)
            · conv => cbv
              exact den_join' h
            conv => cbv
            refine .mk ?_
            conv => cbv
            refine .mk ?_
            conv => cbv
            refine den_br h (fun _ h => ?_) (fun _ h => ?_)
            · conv => cbv
              refine den_call' hP h (fun _ h => v_rice_escape h) fun r9 _ h => ?_
              conv => cbv
              refine .mk ?_
              conv => cbv
              refine den_br h (fun _ h => ?_) (fun _ h => ?_)
              · conv => cbv
                refine den_elem h fun p10 _ h => ?_
                conv => cbv
                refine den_br h (fun _ h => ?_) (fun _ h => ?_)
                · conv => cbv
                  exact den_join' h
                conv => cbv
                replace h := den_out h hx1
                cases h
                exact lp
              conv => cbv
              replace h := den_out h hx1
              cases h
              exact lp
            conv => cbv
            refine .mk ?_
            conv => cbv
            replace h := den_out h hx1
            cases h
            exact lp
          conv => cbv
          refine .mk ?_
          conv => cbv
          refine .mk ?_
          conv => cbv
          refine den_br h (fun _ h => ?_) (fun _ h => ?_)
          · conv => cbv
            refine den_call' hP h (fun _ h => v_rice_escape h) fun r11 _ h => ?_
            conv => cbv
            refine .mk ?_
            conv => cbv
            refine den_br h (fun _ h => ?_) (fun _ h => ?_)
            · conv => cbv
              refine den_elem h fun p12 _ h => ?_
              conv => cbv
              refine den_br h (fun _ h => ?_) (fun _ h => ?_)
              · conv => cbv
                exact den_join' h
              conv => cbv
              replace h := den_out h hx1
              cases h
              exact lp
            conv => cbv
            replace h := den_out h hx1
            cases h
            exact lp
          conv => cbv
          refine .mk ?_
          conv => cbv
          replace h := den_out h hx1
          cases h
          exact lp
        conv => cbv
        refine .mk ?_
        conv => cbv
        refine .mk ?_
        conv => cbv
        refine .mk ?_
        conv => cbv
        refine .mk ?_
        conv => cbv
        refine den_br h (fun _ h => ?_) (fun _ h => ?_)
        · conv => cbv
          refine den_call' hP h (fun _ h => v_rice_escape h) fun r13 _ h => ?_
          conv => cbv
          refine .mk ?_
          conv => cbv
          refine den_br h (fun _ h => ?_) (fun _ h => ?_)
          · conv => cbv
            refine den_elem h fun p14 _ h => ?_
            conv => cbv
            refine den_br h (fun _ h => ?_) (fun _ h => ?_)
            · conv => cbv
              exact den_join' h
            conv => cbv
            replace h := den_out h hx1
            cases h
            exact lp
          conv => cbv
          replace h := den_out h hx1
          cases h
          exact lp
        conv => cbv
        refine .mk ?_
        conv => cbv
        replace h := den_out h hx1
        cases h
        exact lp
      unfold rice_Check_K3 at h
      conv => cbv
      exact den_back' h hb1
    conv => cbv
    replace h := den_out h hx1
    exact den_join' h
  unfold rice_Check_K2 at h
  conv => cbv
  cases h
  exact lp
def T_rice_Size : Tab := [(3, ⟨.int .i64, 1, 8, [.int .i64 (.lit 0)]⟩), (23, ⟨.arr 2 3, 2, 16, [.int .i64 (.lit 0), .int .i64 (.lit 0)]⟩), (27, ⟨.int .i64, 1, 8, [.int .i64 (.lit 0)]⟩), (30, ⟨.slice 3, 1, 24, [.nilsl]⟩), (34, ⟨.struct [(0, 3), (1, 3), (2, 30), (3, 30)], 4, 64, [.int .i64 (.lit 0), .int .i64 (.lit 0), .nilsl, .nilsl]⟩)]
theorem T_rice_Size_ok : TabOk Tryz.prog T_rice_Size := tab_ok [3, 23, 27, 30, 34]
theorem v_rice_Size {y0 : rice_Plan} {y1 : Int} {y2 : List Int} {r : Int × Int} (h : rice_Size y0 y1 y2 = some r) : AVal Tryz.prog Gl 42 [e_rice_Plan y0, e_i64 y1, (e_sl 1 e_i64) y2] (.tup [e_i64 r.1, e_i64 r.2]) := by
  refine aval_of' T_rice_Size Gl 72 Tryz.func42 T_rice_Size_ok Tryz_mixed fun P hP _ => ?_
  unfold rice_Size at h
  conv => cbv
  refine .mk ?_
  conv => cbv
  refine den_call' hP h (fun _ h => v_rice_Check h) fun r1 _ h => ?_
  conv => cbv
  refine den_br h (fun _ h => ?_) (fun _ h => ?_)
  · conv => cbv
    cases h
    exact .tup _ _ lp
  conv => cbv
  refine den_cut' (r := r) rice_Size_K1 (fun j2 => ⟨[(6, .ptr 6 0), (7, .ptr 7 0), (9, .ptr 9 0)], [(6, .var [.int .i64 (.lit 0)]), (7, .var [.int .i64 (.lit 0)]), (9, .var [.int .i64 (.v j2)])], []⟩) ?_ (fun j2 h => ?_)
  · conv => cbv
    refine .mk ?_
    conv => cbv
    obtain ⟨t3, ht3, h⟩ := den_let h
    refine den_own' (ho := True.intro) [] [] hP h (fun _ h => x_rice_parts h) fun r4 _ h => ?_
    conv => cbv
    refine den_bind h fun e5 hse5 h => ?_
    refine den_fold (step := (rice_Size_L1 y0 y2)) (done := rice_Size_K2) (ret := rice_Size_K3) h (fun p6 : Int × (Arr2 Int) => [.int .i64 (.v p6.1), .agg [.int .i64 (.v p6.2.a0), .int .i64 (.v p6.2.a1)]]) (fun a7 : Int => ⟨[(3, .ptr 3 0), (5, .ptr 5 0), (6, .ptr 6 0), (7, .ptr 7 0), (9, .ptr 9 0)], [(3, .var [.int .i64 (.v y0.Method), .int .i64 (.v y0.Order), .sl 1 e_i64 y0.Params, .sl 1 e_i64 y0.Bits]), (5, .var [.sl 1 e_i64 y2]), (6, .var [.int .i64 (.lit 0)]), (7, .var [.int .i64 (.lit 0)]), (9, .var [.int .i64 (.v a7)])], []⟩) (fun b8 : Int => ⟨[(3, .ptr 3 0), (5, .ptr 5 0), (6, .ptr 6 0), (7, .ptr 7 0), (9, .ptr 9 0)], [(3, .var [.int .i64 (.v y0.Method), .int .i64 (.v y0.Order), .sl 1 e_i64 y0.Params, .sl 1 e_i64 y0.Bits]), (5, .var [.sl 1 e_i64 y2]), (6, .var [.int .i64 (.lit 0)]), (7, .var [.int .i64 (.lit 10)]), (9, .var [.int .i64 (.v b8)])], []⟩) 0 88 [.rptr [.int .i64 (.v t3)], .rptr [.int .i64 (.v y0.Order)], .rptr [.int .i64 (.v y1)]] rfl rfl (hP ▸ it_parts hse5) (fun _ => ⟨rfl, rfl⟩) ?_ (fun p6 a7 x1 h => ?_) (fun b8 h => ?_) (fun a7 h => ?_)
    · conv => cbv
      exact ⟨⟨.same _, .same _, .same _, .same _, .var _ _ lp, trivial⟩, .same _, .same _, .same _, .same _, .same _, trivial⟩
    · refine den_round 0 [(3, 10003, false), (5, 10005, false), (6, 10006, false), (7, 10007, false), (9, 10009, false)] _ [(10003, .var [.int .i64 (.v y0.Method), .int .i64 (.v y0.Order), .sl 1 e_i64 y0.Params, .sl 1 e_i64 y0.Bits]), (10005, .var [.sl 1 e_i64 y2]), (10006, .var [.int .i64 (.lit 0)]), (10007, .var [.int .i64 (.lit 0)]), (10009, .var [.int .i64 (.v a7)])] (fun a7 : Int => [(10003, .var [.int .i64 (.v y0.Method), .int .i64 (.v y0.Order), .sl 1 e_i64 y0.Params, .sl 1 e_i64 y0.Bits]), (10005, .var [.sl 1 e_i64 y2]), (10006, .var [.int .i64 (.lit 0)]), (10007, .var [.int .i64 (.lit 0)]), (10009, .var [.int .i64 (.v a7)])]) (fun b8 : Int => [(10003, .var [.int .i64 (.v y0.Method), .int .i64 (.v y0.Order), .sl 1 e_i64 y0.Params, .sl 1 e_i64 y0.Bits]), (10005, .var [.sl 1 e_i64 y2]), (10006, .var [.int .i64 (.lit 0)]), (10007, .var [.int .i64 (.lit 10)]), (10009, .var [.int .i64 (.v b8)])]) (LePl.refl _ _) (fun _ => rfl) (fun _ => rfl) rfl (by (conv => cbv); exact ⟨.same _, .same _, .same _, .same _, .same _, trivial⟩) ?_ (fun a7 => ?_) (fun b8 => ?_)
      · refine round_of (c := ⟨T_rice_Size, Gl, 72, [10003, 10005, 10006, 10007, 10009], []⟩) rfl (hP ▸ T_rice_Size_ok) (by rw [hP]; exact eqsOk_of (by kernel_rfl)) (by rw [hP]; exact Tryz_mixed) rfl rfl rfl rfl rfl ?_ fun P hP2 _ => ?_
        · cases x1 <;> rfl
        have hP := hP2.trans hP
        unfold rice_Size_L1 at h
        conv => cbv
        refine .dup ?_
        conv => cbv
        refine .mk (some []) (by kernel_rfl) ?_
        conv => cbv
        refine .mk ?_
        conv => cbv
        refine den_sub h fun l9 _ h => ?_
        conv => cbv
        refine den_elem h fun p10 _ h => ?_
        conv => cbv
        refine .mk ?_
        conv => cbv
        refine den_elem h fun p11 _ h => ?_
        conv => cbv
        refine den_call' hP h (fun _ h => v_rice_some h) fun r12 _ h => ?_
        conv => cbv
        refine .mk ?_
        conv => cbv
        refine den_br h (fun _ h => ?_) (fun _ h => ?_)
        · conv => cbv
          obtain ⟨t0, ht0, rfl⟩ := den_inr h
          conv => cbv
          refine .mk [(10003, 10003, false), (10005, 10005, false), (10006, 10006, false), (10007, 10007, false), (10009, 10009, false)] [] rfl rfl ?_ ?_
          · conv => cbv
            subst ht0
            exact ⟨.same _, .same _, .same _, .same _, .var _ _ lp, trivial⟩
          conv => cbv
          exact lp
        conv => cbv
        refine .mk ?_
        conv => cbv
        refine .mk ?_
        conv => cbv
        refine den_elem h fun p13 _ h => ?_
        conv => cbv
        refine den_br h (fun _ h => ?_) (fun _ h => ?_)
        · conv => cbv
          obtain ⟨t0, ht0, rfl⟩ := den_inl h
          conv => cbv
          refine .mk [(10003, 10003, false), (10005, 10005, false), (10006, 10006, false), (10007, 10007, false), (10009, 10009, false)] [] rfl rfl ?_ ?_
          · conv => cbv
            subst ht0
            exact ⟨.same _, .same _, .same _, .same _, .var _ _ lp, trivial⟩
          conv => cbv
          exact lp
        conv => cbv
        obtain ⟨t0, ht0, rfl⟩ := den_inl h
        conv => cbv
        refine .mk [(10003, 10003, false), (10005, 10005, false), (10006, 10006, false), (10007, 10007, false), (10009, 10009, false)] [] rfl rfl ?_ ?_
        · conv => cbv
          subst ht0
          exact ⟨.same _, .same _, .same _, .same _, .var _ _ lp, trivial⟩
        conv => cbv
        exact lp
      · conv => cbv
        exact lp
      · conv => cbv
        exact lp
    · unfold rice_Size_K3 at h
      conv => cbv
      cases h
      exact .tup _ _ lp
    · unfold rice_Size_K2 at h
      conv => cbv
      exact den_join' h
  unfold rice_Size_K1 at h
  conv => cbv
  cases h
  exact .tup _ _ lp
def Tx_rice_Write : Tab := [(3, ⟨.int .i64, 1, 8, [.int .i64 (.lit 0)]⟩), (5, ⟨.int .u8, 1, 1, [.int .u8 (.lit 0)]⟩), (23, ⟨.arr 2 3, 2, 16, [.int .i64 (.lit 0), .int .i64 (.lit 0)]⟩), (30, ⟨.slice 3, 1, 24, [.nilsl]⟩), (34, ⟨.struct [(0, 3), (1, 3), (2, 30), (3, 30)], 4, 64, [.int .i64 (.lit 0), .int .i64 (.lit 0), .nilsl, .nilsl]⟩), (51, ⟨.ptr 89, 1, 8, [.nilptr]⟩)]
theorem Tx_rice_Write_ok : TabOk Tryz.prog Tx_rice_Write := tab_ok [3, 5, 23, 30, 34, 51]
theorem x_rice_Write {y0 : rice_Plan} {y1 : Int} {y2 : List Int} {y3 : Int} {y4 : List Int} {r : Int × Int × (List Int)} (h : rice_Write y0 y1 y2 y3 y4 = some r) : ACalls Tryz.prog Gl 47 [.ptr 10000 0, e_rice_Plan y0, e_i64 y1, (e_sl 1 e_i64) y2] [(10000, .var [.int .i64 (.v y3), .osl 10001]), (10001, .arr false 5 1 e_u8 y4)] (fun x o' => x = .int .i64 (.v r.1) ∧ o' = [(10000, .var [.int .i64 (.v r.2.1), .osl 10001]), (10001, .arr false 5 1 e_u8 r.2.2)]) := by
  refine acalls_of' Tx_rice_Write Gl 116 [10000] Tryz.func47 Tx_rice_Write_ok Tryz_mixed fun P hP _ => ?_
  unfold rice_Write at h
  conv => cbv
  refine .mk ?_
  conv => cbv
  refine den_call' hP h (fun _ h => v_rice_Size h) fun r1 _ h => ?_
  conv => cbv
  refine den_br h (fun _ h => ?_) (fun _ h => ?_)
  · conv => cbv
    refine .mk [(10000, 10000, false), (10001, 10001, false)] [] rfl rfl ?_ ?_
    · conv => cbv
      cases h
      exact ⟨.var _ _ lp, .arr _ _ _ _ _ _ rfl, trivial⟩
    conv => cbv
    cases h
    exact lp
  conv => cbv
  refine den_own' [(10000, 10000, false), (10001, 10001, true)] [] hP h (fun _ h => x_bits_Writer_Put h) fun r2 _ h => ?_
  conv => cbv
  refine den_own' [(10000, 10000, false), (10001, 10001, true)] [] hP h (fun _ h => x_bits_Writer_Put h) fun r3 _ h => ?_
  conv => cbv
  refine den_cut' (r := r) rice_Write_K1 (fun j4 => ⟨[], [(10000, .var [.int .i64 (.v j4.1), .osl 10001]), (10001, .arr false 5 1 e_u8 j4.2)], []⟩) ?_ (fun j4 h => ?_)
  · conv => cbv
    refine .mk ?_
    conv => cbv
    obtain ⟨t5, ht5, h⟩ := den_let h
    refine den_own' (ho := True.intro) [] [] hP h (fun _ h => x_rice_parts h) fun r6 _ h => ?_
    conv => cbv
    refine den_bind h fun e7 hse7 h => ?_
    refine den_fold (step := (rice_Write_L1 y0 y2)) (done := rice_Write_K4) (ret := ((fun b => nomatch b))) h (fun p8 : Int × (Arr2 Int) => [.int .i64 (.v p8.1), .agg [.int .i64 (.v p8.2.a0), .int .i64 (.v p8.2.a1)]]) (fun a9 : Int × (List Int) => ⟨[(4, .ptr 4 0), (5, .ptr 5 0), (7, .ptr 7 0), (8, .int .i64 (.lit 0))], [(4, .var [.ptr 10000 0]), (5, .var [.int .i64 (.v y0.Method), .int .i64 (.v y0.Order), .sl 1 e_i64 y0.Params, .sl 1 e_i64 y0.Bits]), (7, .var [.sl 1 e_i64 y2]), (10000, .var [.int .i64 (.v a9.1), .osl 10001]), (10001, .arr false 5 1 e_u8 a9.2)], []⟩) (fun b10 : Empty => nomatch b10) 0 88 [.rptr [.int .i64 (.v t5)], .rptr [.int .i64 (.v y0.Order)], .rptr [.int .i64 (.v y1)]] rfl rfl (hP ▸ it_parts hse7) (fun _ => ⟨rfl, rfl⟩) ?_ (fun p8 a9 x1 h => ?_) (fun b10 h => ?_) (fun a9 h => ?_)
    · conv => cbv
      exact ⟨⟨.same _, .same _, .same _, .var _ _ lp, .arr _ _ _ _ _ _ rfl, trivial⟩, .same _, .same _, .same _, .same _, trivial⟩
    · refine den_round 0 [(4, 10004, false), (5, 10005, false), (7, 10007, false), (10000, 19900, false), (10001, 19901, true)] _ [(10004, .var [.ptr 19900 0]), (10005, .var [.int .i64 (.v y0.Method), .int .i64 (.v y0.Order), .sl 1 e_i64 y0.Params, .sl 1 e_i64 y0.Bits]), (10007, .var [.sl 1 e_i64 y2]), (19900, .var [.int .i64 (.v a9.1), .osl 19901]), (19901, .arr false 5 1 e_u8 a9.2)] (fun a9 : Int × (List Int) => [(10004, .var [.ptr 19900 0]), (10005, .var [.int .i64 (.v y0.Method), .int .i64 (.v y0.Order), .sl 1 e_i64 y0.Params, .sl 1 e_i64 y0.Bits]), (10007, .var [.sl 1 e_i64 y2]), (19900, .var [.int .i64 (.v a9.1), .osl 19901]), (19901, .arr false 5 1 e_u8 a9.2)]) (fun b10 : Empty => nomatch b10) (LePl.refl _ _) (fun _ => rfl) (fun b => nomatch b) rfl (by (conv => cbv); exact ⟨.same _, .same _, .same _, .same _, .same _, trivial⟩) ?_ (fun a9 => ?_) (fun b10 => ?_)
      · refine round_of (c := ⟨Tx_rice_Write, Gl, 116, [10004, 10005, 10007, 19900], []⟩) rfl (hP ▸ Tx_rice_Write_ok) (by rw [hP]; exact eqsOk_of (by kernel_rfl)) (by rw [hP]; exact Tryz_mixed) rfl rfl rfl rfl rfl ?_ fun P hP2 _ => ?_
        · cases x1 with
          | inl => rfl
          | inr b => exact nomatch b
        have hP := hP2.trans hP
        unfold rice_Write_L1 at h
        conv => cbv
        refine .mk ?_
        conv => cbv
        refine den_elem h fun p11 _ h => ?_
        conv => cbv
        refine den_cut' (r := x1) (rice_Write_K2 y0 y2 p8 p11) (fun j12 => ⟨[(4, .ptr 10004 0), (5, .ptr 10005 0), (7, .ptr 10007 0), (11, .int .i64 (.v p8.1)), (12, .ptr 12 0), (13, .int .i64 (.v p11))], [(12, .var [.int .i64 (.v p8.2.a0), .int .i64 (.v p8.2.a1)]), (10004, .var [.ptr 19900 0]), (10005, .var [.int .i64 (.v y0.Method), .int .i64 (.v y0.Order), .sl 1 e_i64 y0.Params, .sl 1 e_i64 y0.Bits]), (10007, .var [.sl 1 e_i64 y2]), (19900, .var [.int .i64 (.v j12.1), .osl 19901]), (19901, .arr false 5 1 e_u8 j12.2)], []⟩) ?_ (fun j12 h => ?_)
        · conv => cbv
          refine den_br h (fun _ h => ?_) (fun _ h => ?_)
          · conv => cbv
            refine .dup ?_
            conv => cbv
            refine .mk (some [19900, 19901]) (by kernel_rfl) ?_
            conv => cbv
            refine .mk ?_
            conv => cbv
            refine den_call' hP h (fun _ h => v_rice_escape h) fun r24 _ h => ?_
            conv => cbv
            obtain ⟨t25, ht25, h⟩ := den_let h
            refine den_own' [(19900, 10000, false), (19901, 10001, true)] [] hP h (fun _ h => x_bits_Writer_Put h) fun r26 _ h => ?_
            conv => cbv
            refine .mk (some [19900, 19901]) (by kernel_rfl) ?_
            conv => cbv
            refine den_elem h fun p27 _ h => ?_
            conv => cbv
            refine .mk ?_
            conv => cbv
            refine den_own' [(19900, 10000, false), (19901, 10001, true)] [] hP h (fun _ h => x_bits_Writer_Put h) fun r28 _ h => ?_
            conv => cbv
            exact den_join' h
          conv => cbv
          refine .mk ?_
          conv => cbv
          obtain ⟨t29, ht29, h⟩ := den_let h
          refine den_own' [(19900, 10000, false), (19901, 10001, true)] [] hP h (fun _ h => x_bits_Writer_Put h) fun r30 _ h => ?_
          conv => cbv
          exact den_join' h
        unfold rice_Write_K2 at h
        conv => cbv
        refine .mk ?_
        conv => cbv
        refine den_sub h fun l13 _ h => ?_
        conv => cbv
        refine den_loop' (rice_Write_L2 y0 p8 p11 l13) h (fun a14 => ⟨[(4, .ptr 10004 0), (5, .ptr 10005 0), (7, .ptr 10007 0), (11, .int .i64 (.v p8.1)), (13, .int .i64 (.v p11)), (81, .sl 1 e_i64 l13), (82, .int .i64 (.len l13)), (83, .int .i64 (.v a14.1))], [(10004, .var [.ptr 19900 0]), (10005, .var [.int .i64 (.v y0.Method), .int .i64 (.v y0.Order), .sl 1 e_i64 y0.Params, .sl 1 e_i64 y0.Bits]), (10007, .var [.sl 1 e_i64 y2]), (19900, .var [.int .i64 (.v a14.2.1), .osl 19901]), (19901, .arr false 5 1 e_u8 a14.2.2)], []⟩) (fun _ _ a14 x2 h hb2 hx2 => ?_)
        unfold rice_Write_L2 at h
        conv => cbv
        refine den_br h (fun _ h => ?_) (fun _ h => ?_)
        · conv => cbv
          refine den_cut' (r := x2) (rice_Write_K3 a14) (fun j15 => ⟨[(4, .ptr 10004 0), (5, .ptr 10005 0), (7, .ptr 10007 0), (11, .int .i64 (.v p8.1)), (13, .int .i64 (.v p11)), (81, .sl 1 e_i64 l13), (82, .int .i64 (.len l13)), (83, .int .i64 (.v a14.1))], [(10004, .var [.ptr 19900 0]), (10005, .var [.int .i64 (.v y0.Method), .int .i64 (.v y0.Order), .sl 1 e_i64 y0.Params, .sl 1 e_i64 y0.Bits]), (10007, .var [.sl 1 e_i64 y2]), (19900, .var [.int .i64 (.v j15.1), .osl 19901]), (19901, .arr false 5 1 e_u8 j15.2)], []⟩) ?_ (fun j15 h => ?_)
          · conv => cbv
            refine den_elem h fun p16 _ h => ?_
            conv => cbv
            refine den_br h (fun _ h => ?_) (fun _ h => ?_)
            · conv => cbv
              refine .dup ?_
              conv => cbv
              refine .mk (some [19900, 19901]) (by kernel_rfl) ?_
              conv => cbv
              refine den_elem h fun p17 _ h => ?_
              conv => cbv
              refine .mk ?_
              conv => cbv
              refine den_own' [(19900, 10000, false), (19901, 10001, true)] [] hP h (fun _ h => x_bits_Writer_Signed h) fun r18 _ h => ?_
              conv => cbv
              exact den_join' h
            conv => cbv
            refine .mk ?_
            conv => cbv
            refine den_call' hP h (fun _ h => v_rice_fold h) fun r19 _ h => ?_
            conv => cbv
            refine .dup ?_
            conv => cbv
            refine .mk (some [19900, 19901]) (by kernel_rfl) ?_
            conv => cbv
            refine den_chk h fun h => ?_
            conv => cbv
            obtain ⟨t20, ht20, h⟩ := den_let h
            refine den_own' [(19900, 10000, false), (19901, 10001, true)] [] hP h (fun _ h => x_bits_Writer_Unary h) fun r21 _ h => ?_
            conv => cbv
            refine .mk (some [19900, 19901]) (by kernel_rfl) ?_
            conv => cbv
            refine den_chk h fun h => ?_
            conv => cbv
            refine .mk ?_
            conv => cbv
            obtain ⟨t22, ht22, h⟩ := den_let h
            refine den_own' [(19900, 10000, false), (19901, 10001, true)] [] hP h (fun _ h => x_bits_Writer_Put h) fun r23 _ h => ?_
            conv => cbv
            exact den_join' h
          unfold rice_Write_K3 at h
          conv => cbv
          exact den_back' h hb2
        conv => cbv
        replace h := den_out h hx2
        obtain ⟨t0, ht0, rfl⟩ := den_inl h
        conv => cbv
        refine .mk [(10004, 10004, false), (10005, 10005, false), (10007, 10007, false), (19900, 19900, false), (19901, 19901, false)] [] rfl rfl ?_ ?_
        · conv => cbv
          subst ht0
          exact ⟨.same _, .same _, .same _, .var _ _ lp, .arr _ _ _ _ _ _ rfl, trivial⟩
        conv => cbv
        exact lp
      · conv => cbv
        exact lp
      · exact nomatch b10
    · exact nomatch b10
    · unfold rice_Write_K4 at h
      conv => cbv
      exact den_join' h
  unfold rice_Write_K1 at h
  conv => cbv
  refine .mk [(10000, 10000, false), (10001, 10001, false)] [] rfl rfl ?_ ?_
  · conv => cbv
    cases h
    exact ⟨.var _ _ lp, .arr _ _ _ _ _ _ rfl, trivial⟩
  conv => cbv
  cases h
  exact lp
def Tx_rice_reader_number_c1 : Tab := [(3, ⟨.int .i64, 1, 8, [.int .i64 (.lit 0)]⟩), (25, ⟨.ptr 60, 1, 8, [.nilptr]⟩), (131, ⟨.ptr 133, 1, 8, [.nilptr]⟩), (133, ⟨.struct [(0, 25), (1, 27)], 2, 16, [.nilptr, .int .i64 (.lit 0)]⟩)]
theorem Tx_rice_reader_number_c1_ok : TabOk Tryz.prog Tx_rice_reader_number_c1 := tab_ok [3, 25, 131, 133]
theorem x_rice_reader_number_c1 {y0 : Int} {y1 : Int} {y2 : bits_Reader} {r : Int × Int × Int} (h : rice_reader_number_c1 y0 y1 y2 = some r) : ACalls Tryz.prog Gl 102 [.ptr 10000 0, .ptr 10001 0] [(10000, .var [.ptr 10002 0]), (10001, .var [.int .i64 (.v y0)]), (10002, .var [.ptr 10003 0, .int .i64 (.v y1)]), (10003, .var [.int .i64 (.v y2.m_place.m_at), .sl 1 e_u8 y2.m_b])] (fun x o' => x = .tup [.int .i64 (.v r.1), .int .i64 (.v r.2.1)] ∧ o' = [(10000, .var [.ptr 10002 0]), (10001, .var [.int .i64 (.v y0)]), (10002, .var [.ptr 10003 0, .int .i64 (.v y1)]), (10003, .var [.int .i64 (.v r.2.2), .sl 1 e_u8 y2.m_b])]) := by
  refine acalls_of' Tx_rice_reader_number_c1 Gl 12 [10000, 10001, 10002, 10003] Tryz.func102 Tx_rice_reader_number_c1_ok Tryz_mixed fun P hP _ => ?_
  unfold rice_reader_number_c1 at h
  conv => cbv
  refine .dup ?_
  conv => cbv
  refine .mk (some [10003]) (by kernel_rfl) ?_
  conv => cbv
  refine .mk ?_
  conv => cbv
  refine den_own' [(10003, 10000, false)] [] hP h (fun _ h => x_bits_Reader_Take h) fun r1 _ h => ?_
  conv => cbv
  refine .mk [(10000, 10000, false), (10001, 10001, false), (10002, 10002, false), (10003, 10003, false)] [] rfl rfl ?_ ?_
  · conv => cbv
    cases h
    exact ⟨.same _, .same _, .same _, .var _ _ lp, trivial⟩
  conv => cbv
  cases h
  exact .cons _ _ _ _ (.tup _ _ lp) .nil
def Tx_rice_reader_take : Tab := [(27, ⟨.int .i64, 1, 8, [.int .i64 (.lit 0)]⟩), (133, ⟨.struct [(0, 25), (1, 27)], 2, 16, [.nilptr, .int .i64 (.lit 0)]⟩)]
theorem Tx_rice_reader_take_ok : TabOk Tryz.prog Tx_rice_reader_take := tab_ok [27, 133]
theorem x_rice_reader_take {y0 : Int} {y1 : Int} {y2 : bits_Reader} {r : Int × Int × Int} (h : rice_reader_take y0 y1 y2 = some r) : ACalls Tryz.prog Gl 97 [.ptr 10000 0, .fn 102 [] [.ptr 10001 0, .ptr 10002 0]] [(10000, .var [.ptr 10003 0, .int .i64 (.v y0)]), (10001, .var [.ptr 10000 0]), (10002, .var [.int .i64 (.v y1)]), (10003, .var [.int .i64 (.v y2.m_place.m_at), .sl 1 e_u8 y2.m_b])] (fun x o' => x = .int .i64 (.v r.1) ∧ o' = [(10000, .var [.ptr 10003 0, .int .i64 (.v r.2.1)]), (10001, .var [.ptr 10000 0]), (10002, .var [.int .i64 (.v y1)]), (10003, .var [.int .i64 (.v r.2.2), .sl 1 e_u8 y2.m_b])]) := by
  refine acalls_of' Tx_rice_reader_take Gl 22 [10000, 10001, 10002, 10003] Tryz.func97 Tx_rice_reader_take_ok Tryz_mixed fun P hP _ => ?_
  unfold rice_reader_take at h
  conv => cbv
  refine den_br h (fun _ h => ?_) (fun _ h => ?_)
  · conv => cbv
    refine .mk [(10000, 10000, false), (10001, 10001, false), (10002, 10002, false), (10003, 10003, false)] [] rfl rfl ?_ ?_
    · conv => cbv
      cases h
      exact ⟨.var _ _ lp, .same _, .same _, .var _ _ lp, trivial⟩
    conv => cbv
    cases h
    exact lp
  conv => cbv
  refine .mk ?_
  conv => cbv
  refine den_own' [(10001, 10000, false), (10002, 10001, false), (10000, 10002, false), (10003, 10003, false)] [] hP h (fun _ h => x_rice_reader_number_c1 h) fun r1 _ h => ?_
  conv => cbv
  refine .mk [(10000, 10000, false), (10001, 10001, false), (10002, 10002, false), (10003, 10003, false)] [] rfl rfl ?_ ?_
  · conv => cbv
    cases h
    exact ⟨.var _ _ lp, .same _, .same _, .var _ _ lp, trivial⟩
  conv => cbv
  cases h
  exact lp
def Tx_rice_reader_number : Tab := [(131, ⟨.ptr 133, 1, 8, [.nilptr]⟩)]
theorem Tx_rice_reader_number_ok : TabOk Tryz.prog Tx_rice_reader_number := tab_ok [131]
theorem x_rice_reader_number {y0 : Int} {y1 : Int} {y2 : bits_Reader} {r : Int × Int × Int} (h : rice_reader_number y0 y1 y2 = some r) : ACalls Tryz.prog Gl 96 [.ptr 10000 0, e_i64 y0] [(10000, .var [.ptr 10001 0, .int .i64 (.v y1)]), (10001, .var [.int .i64 (.v y2.m_place.m_at), .sl 1 e_u8 y2.m_b])] (fun x o' => x = .int .i64 (.v r.1) ∧ o' = [(10000, .var [.ptr 10001 0, .int .i64 (.v r.2.1)]), (10001, .var [.int .i64 (.v r.2.2), .sl 1 e_u8 y2.m_b])]) := by
  refine acalls_of' Tx_rice_reader_number Gl 8 [10000, 10001] Tryz.func96 Tx_rice_reader_number_ok Tryz_mixed fun P hP _ => ?_
  unfold rice_reader_number at h
  conv => cbv
  refine den_own' [(10000, 10000, false), (2, 10001, false), (3, 10002, false), (10001, 10003, false)] [] hP h (fun _ h => x_rice_reader_take h) fun r1 _ h => ?_
  conv => cbv
  refine .mk [(10000, 10000, false), (10001, 10001, false)] [] rfl rfl ?_ ?_
  · conv => cbv
    cases h
    exact ⟨.var _ _ lp, .var _ _ lp, trivial⟩
  conv => cbv
  cases h
  exact lp
def Tx_rice_read_c1 : Tab := [(3, ⟨.int .i64, 1, 8, [.int .i64 (.lit 0)]⟩), (25, ⟨.ptr 60, 1, 8, [.nilptr]⟩), (131, ⟨.ptr 133, 1, 8, [.nilptr]⟩), (133, ⟨.struct [(0, 25), (1, 27)], 2, 16, [.nilptr, .int .i64 (.lit 0)]⟩)]
theorem Tx_rice_read_c1_ok : TabOk Tryz.prog Tx_rice_read_c1 := tab_ok [3, 25, 131, 133]
theorem x_rice_read_c1 {y0 : Int} {y1 : Int} {y2 : bits_Reader} {r : Int × Int × Int} (h : rice_read_c1 y0 y1 y2 = some r) : ACalls Tryz.prog Gl 98 [.ptr 10000 0, .ptr 10001 0] [(10000, .var [.ptr 10002 0]), (10001, .var [.int .i64 (.v y0)]), (10002, .var [.ptr 10003 0, .int .i64 (.v y1)]), (10003, .var [.int .i64 (.v y2.m_place.m_at), .sl 1 e_u8 y2.m_b])] (fun x o' => x = .tup [.int .i64 (.v r.1), .int .i64 (.v r.2.1)] ∧ o' = [(10000, .var [.ptr 10002 0]), (10001, .var [.int .i64 (.v y0)]), (10002, .var [.ptr 10003 0, .int .i64 (.v y1)]), (10003, .var [.int .i64 (.v r.2.2), .sl 1 e_u8 y2.m_b])]) := by
  refine acalls_of' Tx_rice_read_c1 Gl 12 [10000, 10001, 10002, 10003] Tryz.func98 Tx_rice_read_c1_ok Tryz_mixed fun P hP _ => ?_
  unfold rice_read_c1 at h
  conv => cbv
  refine .dup ?_
  conv => cbv
  refine .mk (some [10003]) (by kernel_rfl) ?_
  conv => cbv
  refine .mk ?_
  conv => cbv
  refine den_own' [(10003, 10000, false)] [] hP h (fun _ h => x_bits_Reader_Signed h) fun r1 _ h => ?_
  conv => cbv
  refine .mk [(10000, 10000, false), (10001, 10001, false), (10002, 10002, false), (10003, 10003, false)] [] rfl rfl ?_ ?_
  · conv => cbv
    cases h
    exact ⟨.same _, .same _, .same _, .var _ _ lp, trivial⟩
  conv => cbv
  cases h
  exact .cons _ _ _ _ (.tup _ _ lp) .nil
def Tx_rice_reader_take_x2 : Tab := [(27, ⟨.int .i64, 1, 8, [.int .i64 (.lit 0)]⟩), (133, ⟨.struct [(0, 25), (1, 27)], 2, 16, [.nilptr, .int .i64 (.lit 0)]⟩)]
theorem Tx_rice_reader_take_x2_ok : TabOk Tryz.prog Tx_rice_reader_take_x2 := tab_ok [27, 133]
theorem x_rice_reader_take_x2 {y0 : Int} {y1 : Int} {y2 : bits_Reader} {r : Int × Int × Int} (h : rice_reader_take_x2 y0 y1 y2 = some r) : ACalls Tryz.prog Gl 97 [.ptr 10000 0, .fn 98 [] [.ptr 10001 0, .ptr 10002 0]] [(10000, .var [.ptr 10003 0, .int .i64 (.v y0)]), (10001, .var [.ptr 10000 0]), (10002, .var [.int .i64 (.v y1)]), (10003, .var [.int .i64 (.v y2.m_place.m_at), .sl 1 e_u8 y2.m_b])] (fun x o' => x = .int .i64 (.v r.1) ∧ o' = [(10000, .var [.ptr 10003 0, .int .i64 (.v r.2.1)]), (10001, .var [.ptr 10000 0]), (10002, .var [.int .i64 (.v y1)]), (10003, .var [.int .i64 (.v r.2.2), .sl 1 e_u8 y2.m_b])]) := by
  refine acalls_of' Tx_rice_reader_take_x2 Gl 22 [10000, 10001, 10002, 10003] Tryz.func97 Tx_rice_reader_take_x2_ok Tryz_mixed fun P hP _ => ?_
  unfold rice_reader_take_x2 at h
  conv => cbv
  refine den_br h (fun _ h => ?_) (fun _ h => ?_)
  · conv => cbv
    refine .mk [(10000, 10000, false), (10001, 10001, false), (10002, 10002, false), (10003, 10003, false)] [] rfl rfl ?_ ?_
    · conv => cbv
      cases h
      exact ⟨.var _ _ lp, .same _, .same _, .var _ _ lp, trivial⟩
    conv => cbv
    cases h
    exact lp
  conv => cbv
  refine .mk ?_
  conv => cbv
  refine den_own' [(10001, 10000, false), (10002, 10001, false), (10000, 10002, false), (10003, 10003, false)] [] hP h (fun _ h => x_rice_read_c1 h) fun r1 _ h => ?_
  conv => cbv
  refine .mk [(10000, 10000, false), (10001, 10001, false), (10002, 10002, false), (10003, 10003, false)] [] rfl rfl ?_ ?_
  · conv => cbv
    cases h
    exact ⟨.var _ _ lp, .same _, .same _, .var _ _ lp, trivial⟩
  conv => cbv
  cases h
  exact lp
def Tx_rice_reader_take_x3 : Tab := [(27, ⟨.int .i64, 1, 8, [.int .i64 (.lit 0)]⟩), (133, ⟨.struct [(0, 25), (1, 27)], 2, 16, [.nilptr, .int .i64 (.lit 0)]⟩)]
theorem Tx_rice_reader_take_x3_ok : TabOk Tryz.prog Tx_rice_reader_take_x3 := tab_ok [27, 133]
theorem x_rice_reader_take_x3 {y0 : Int} {y1 : bits_Reader} {r : Int × Int × Int} (h : rice_reader_take_x3 y0 y1 = some r) : ACalls Tryz.prog Gl 97 [.ptr 10000 0, .fn 79 [.ptr 10001 0] []] [(10000, .var [.ptr 10001 0, .int .i64 (.v y0)]), (10001, .var [.int .i64 (.v y1.m_place.m_at), .sl 1 e_u8 y1.m_b])] (fun x o' => x = .int .i64 (.v r.1) ∧ o' = [(10000, .var [.ptr 10001 0, .int .i64 (.v r.2.1)]), (10001, .var [.int .i64 (.v r.2.2), .sl 1 e_u8 y1.m_b])]) := by
  refine acalls_of' Tx_rice_reader_take_x3 Gl 22 [10000, 10001] Tryz.func97 Tx_rice_reader_take_x3_ok Tryz_mixed fun P hP _ => ?_
  unfold rice_reader_take_x3 at h
  conv => cbv
  refine den_br h (fun _ h => ?_) (fun _ h => ?_)
  · conv => cbv
    refine .mk [(10000, 10000, false), (10001, 10001, false)] [] rfl rfl ?_ ?_
    · conv => cbv
      cases h
      exact ⟨.var _ _ lp, .var _ _ lp, trivial⟩
    conv => cbv
    cases h
    exact lp
  conv => cbv
  refine .mk ?_
  conv => cbv
  refine den_own' [(10001, 10000, false)] [] hP h (fun _ h => x_bits_Reader_Unary h) fun r1 _ h => ?_
  conv => cbv
  refine .mk [(10000, 10000, false), (10001, 10001, false)] [] rfl rfl ?_ ?_
  · conv => cbv
    cases h
    exact ⟨.var _ _ lp, .var _ _ lp, trivial⟩
  conv => cbv
  cases h
  exact lp
def T_rice_unfold : Tab := []
theorem T_rice_unfold_ok : TabOk Tryz.prog T_rice_unfold := tab_ok []
theorem v_rice_unfold {y0 : Int} {r : Int} (h : rice_unfold y0 = some r) : AVal Tryz.prog Gl 103 [e_i64 y0] (e_i64 r) := by
  refine aval_of' T_rice_unfold Gl 12 Tryz.func103 T_rice_unfold_ok Tryz_mixed fun P hP _ => ?_
  unfold rice_unfold at h
  conv => cbv
  refine den_br h (fun _ h => ?_) (fun _ h => ?_)
  · conv => cbv
    cases h
    exact lp
  conv => cbv
  cases h
  exact lp
def Tx_rice_reader_coded : Tab := [(25, ⟨.ptr 60, 1, 8, [.nilptr]⟩), (27, ⟨.int .i64, 1, 8, [.int .i64 (.lit 0)]⟩), (133, ⟨.struct [(0, 25), (1, 27)], 2, 16, [.nilptr, .int .i64 (.lit 0)]⟩)]
theorem Tx_rice_reader_coded_ok : TabOk Tryz.prog Tx_rice_reader_coded := tab_ok [25, 27, 133]
theorem x_rice_reader_coded {y0 : Int} {y1 : Int} {y2 : bits_Reader} {r : Int × Int × Int} (h : rice_reader_coded y0 y1 y2 = some r) : ACalls Tryz.prog Gl 99 [.ptr 10000 0, e_i64 y0] [(10000, .var [.ptr 10001 0, .int .i64 (.v y1)]), (10001, .var [.int .i64 (.v y2.m_place.m_at), .sl 1 e_u8 y2.m_b])] (fun x o' => x = .int .i64 (.v r.1) ∧ o' = [(10000, .var [.ptr 10001 0, .int .i64 (.v r.2.1)]), (10001, .var [.int .i64 (.v r.2.2), .sl 1 e_u8 y2.m_b])]) := by
  refine acalls_of' Tx_rice_reader_coded Gl 46 [10000, 10001] Tryz.func99 Tx_rice_reader_coded_ok Tryz_mixed fun P hP _ => ?_
  unfold rice_reader_coded at h
  conv => cbv
  refine .mk ?_
  conv => cbv
  refine den_own' [(10000, 10000, false), (10001, 10001, false)] [] hP h (fun _ h => x_rice_reader_take_x3 h) fun r1 _ h => ?_
  conv => cbv
  refine .dup ?_
  conv => cbv
  refine .mk (some [10000, 10001]) (by kernel_rfl) ?_
  conv => cbv
  refine den_chk h fun h => ?_
  conv => cbv
  refine .mk ?_
  conv => cbv
  refine den_own' [(10000, 10000, false), (10001, 10001, false)] [] hP h (fun _ h => x_rice_reader_number h) fun r2 _ h => ?_
  conv => cbv
  refine den_call' hP h (fun _ h => v_rice_unfold h) fun r3 _ h => ?_
  conv => cbv
  refine den_cut' (r := r) (rice_reader_coded_K1 r2 r3) (fun j4 => ⟨[(6, .int .i64 (.v r3))], [(10000, .var [.ptr 10001 0, .int .i64 (.v j4)]), (10001, .var [.int .i64 (.v r2.2.2), .sl 1 e_u8 y2.m_b])], []⟩) ?_ (fun j4 h => ?_)
  · conv => cbv
    refine .mk ?_
    conv => cbv
    refine den_call' hP h (fun _ h => v_rice_fold h) fun r5 _ h => ?_
    conv => cbv
    refine .mk ?_
    conv => cbv
    refine .mk ?_
    conv => cbv
    refine den_br h (fun _ h => ?_) (fun _ h => ?_)
    · conv => cbv
      exact den_join' h
    conv => cbv
    exact den_join' h
  unfold rice_reader_coded_K1 at h
  conv => cbv
  refine .mk [(10000, 10000, false), (10001, 10001, false)] [] rfl rfl ?_ ?_
  · conv => cbv
    cases h
    exact ⟨.var _ _ lp, .var _ _ lp, trivial⟩
  conv => cbv
  cases h
  exact lp
def Tx_rice_read : Tab := [(3, ⟨.int .i64, 1, 8, [.int .i64 (.lit 0)]⟩), (23, ⟨.arr 2 3, 2, 16, [.int .i64 (.lit 0), .int .i64 (.lit 0)]⟩), (27, ⟨.int .i64, 1, 8, [.int .i64 (.lit 0)]⟩), (30, ⟨.slice 3, 1, 24, [.nilsl]⟩), (34, ⟨.struct [(0, 3), (1, 3), (2, 30), (3, 30)], 4, 64, [.int .i64 (.lit 0), .int .i64 (.lit 0), .nilsl, .nilsl]⟩), (131, ⟨.ptr 133, 1, 8, [.nilptr]⟩), (133, ⟨.struct [(0, 25), (1, 27)], 2, 16, [.nilptr, .int .i64 (.lit 0)]⟩)]
theorem Tx_rice_read_ok : TabOk Tryz.prog Tx_rice_read := tab_ok [3, 23, 27, 30, 34, 131, 133]
set_option maxHeartbeats 2000000 in
theorem x_rice_read {y0 : Int} {y1 : Int} {y2 : Int} {y3 : bits_Reader} {r : (List Int) × Int × Int × (List Int) × (List Int) × Int × Int × Int} (h : rice_read y0 y1 y2 y3 = some r) : ACalls Tryz.prog Gl 82 [.ptr 10000 0, e_i64 y0, e_i64 y1] [(10000, .var [.ptr 10001 0, .int .i64 (.v y2)]), (10001, .var [.int .i64 (.v y3.m_place.m_at), .sl 1 e_u8 y3.m_b])] (fun x o' => x = .tup [.sl 1 e_i64 r.1, .agg [.int .i64 (.v r.2.1), .int .i64 (.v r.2.2.1), .sl 1 e_i64 r.2.2.2.1, .sl 1 e_i64 r.2.2.2.2.1], .int .i64 (.v r.2.2.2.2.2.1)] ∧ o' = [(10000, .var [.ptr 10001 0, .int .i64 (.v r.2.2.2.2.2.2.1)]), (10001, .var [.int .i64 (.v r.2.2.2.2.2.2.2), .sl 1 e_u8 y3.m_b])]) := by
  refine acalls_of' Tx_rice_read Gl 118 [10000, 10001] Tryz.func82 Tx_rice_read_ok Tryz_mixed fun P hP _ => ?_
  unfold rice_read at h
  conv => cbv
  refine den_own' [(10000, 10000, false), (10001, 10001, false)] [] hP h (fun _ h => x_rice_reader_number h) fun r1 _ h => ?_
  conv => cbv
  refine .mk ?_
  conv => cbv
  refine den_br h (fun _ h => ?_) (fun _ h => ?_)
  · conv => cbv
    refine .dup ?_
    conv => cbv
    refine .mk (some [7]) (by kernel_rfl) ?_
    conv => cbv
    refine .mk [(10000, 10000, false), (10001, 10001, false)] [] rfl rfl ?_ ?_
    · conv => cbv
      cases h
      exact ⟨.var _ _ lp, .var _ _ lp, trivial⟩
    conv => cbv
    cases h
    exact .cons _ _ _ _ (.tup _ _ lp) .nil
  conv => cbv
  refine den_own' [(10000, 10000, false), (10001, 10001, false)] [] hP h (fun _ h => x_rice_reader_number h) fun r2 _ h => ?_
  conv => cbv
  refine den_br h (fun _ h => ?_) (fun _ h => ?_)
  · conv => cbv
    refine .dup ?_
    conv => cbv
    refine .mk (some [7]) (by kernel_rfl) ?_
    conv => cbv
    refine .mk ?_
    conv => cbv
    refine .mk [(10000, 10000, false), (10001, 10001, false)] [] rfl rfl ?_ ?_
    · conv => cbv
      cases h
      exact ⟨.var _ _ lp, .var _ _ lp, trivial⟩
    conv => cbv
    cases h
    exact .cons _ _ _ _ (.tup _ _ lp) .nil
  conv => cbv
  refine .mk ?_
  conv => cbv
  refine den_call' hP h (fun _ h => v_rice_head h) fun r3 _ h => ?_
  conv => cbv
  refine den_br h (fun _ h => ?_) (fun _ h => ?_)
  · conv => cbv
    refine .dup ?_
    conv => cbv
    refine .mk (some [7]) (by kernel_rfl) ?_
    conv => cbv
    refine .mk [(10000, 10000, false), (10001, 10001, false)] [] rfl rfl ?_ ?_
    · conv => cbv
      cases h
      exact ⟨.var _ _ lp, .var _ _ lp, trivial⟩
    conv => cbv
    cases h
    exact .cons _ _ _ _ (.tup _ _ lp) .nil
  conv => cbv
  refine den_cut' (r := r) (rice_read_K1 r1 r2) (fun j4 => ⟨[(3, .ptr 3 0), (7, .ptr 7 0), (9, .ptr 9 0), (10, .ptr 10 0)], [(3, .var [.ptr 10000 0]), (7, .var [.int .i64 (.lit 0), .int .i64 (.lit 0), .nilsl, .nilsl]), (9, .var [.osl 8980]), (10, .var [.int .i64 (.v r1.1), .int .i64 (.v r2.1), .osl 9002, .osl 9003]), (8980, .arr false 3 1 e_i64 j4.2.2.1), (9002, .arr false 3 1 e_i64 j4.2.2.2.1), (9003, .arr false 3 1 e_i64 j4.2.2.2.2), (10000, .var [.ptr 10001 0, .int .i64 (.v j4.1)]), (10001, .var [.int .i64 (.v j4.2.1), .sl 1 e_u8 y3.m_b])], []⟩) ?_ (fun j4 h => ?_)
  · conv => cbv
    refine den_own' (ho := True.intro) [] [] hP h (fun _ h => x_rice_parts h) fun r5 _ h => ?_
    conv => cbv
    refine den_bind h fun e6 hse6 h => ?_
    refine den_fold (step := (rice_read_L1 y3 r1)) (done := (rice_read_K5 r1 r2)) (ret := (rice_read_K6 r1 r2)) h (fun p7 : Int × (Arr2 Int) => [.int .i64 (.v p7.1), .agg [.int .i64 (.v p7.2.a0), .int .i64 (.v p7.2.a1)]]) (fun a8 : Int × Int × (List Int) × (List Int) × (List Int) => ⟨[(3, .ptr 3 0), (6, .nilsl), (7, .ptr 7 0), (8, .int .i64 (.lit 0)), (9, .ptr 9 0), (10, .ptr 10 0)], [(3, .var [.ptr 10000 0]), (7, .var [.int .i64 (.lit 0), .int .i64 (.lit 0), .nilsl, .nilsl]), (9, .var [.osl 8980]), (10, .var [.int .i64 (.v r1.1), .int .i64 (.v r2.1), .osl 9002, .osl 9003]), (8980, .arr false 3 1 e_i64 a8.2.2.1), (9002, .arr false 3 1 e_i64 a8.2.2.2.1), (9003, .arr false 3 1 e_i64 a8.2.2.2.2), (10000, .var [.ptr 10001 0, .int .i64 (.v a8.1)]), (10001, .var [.int .i64 (.v a8.2.1), .sl 1 e_u8 y3.m_b])], []⟩) (fun b9 : Int × Int × (List Int) × (List Int) × (List Int) => ⟨[(3, .ptr 3 0), (7, .ptr 7 0), (9, .ptr 9 0), (10, .ptr 10 0)], [(3, .var [.ptr 10000 0]), (7, .var [.int .i64 (.lit 0), .int .i64 (.lit 0), .nilsl, .nilsl]), (9, .var [.osl 8980]), (10, .var [.int .i64 (.v r1.1), .int .i64 (.v r2.1), .osl 9002, .osl 9003]), (8980, .arr false 3 1 e_i64 b9.2.2.1), (9002, .arr false 3 1 e_i64 b9.2.2.2.1), (9003, .arr false 3 1 e_i64 b9.2.2.2.2), (10000, .var [.ptr 10001 0, .int .i64 (.v b9.1)]), (10001, .var [.int .i64 (.v b9.2.1), .sl 1 e_u8 y3.m_b])], []⟩) 1 88 [.rptr [.int .i64 (.v y0)], .rptr [.int .i64 (.v r2.1)], .rptr [.int .i64 (.v y1)]] rfl rfl (hP ▸ it_parts hse6) (fun _ => ⟨rfl, rfl⟩) ?_ (fun p7 a8 x1 h => ?_) (fun b9 h => ?_) (fun a8 h => ?_)
    · conv => cbv
      exact ⟨⟨.same _, .same _, .var _ _ (.cons _ _ _ _ (.own _ _ _ _ _ _ rfl rfl) .nil), .var _ _ (.cons _ _ _ _ (.same _) (.cons _ _ _ _ (.same _) (.cons _ _ _ _ (.own _ _ _ _ _ _ rfl rfl) (.cons _ _ _ _ (.own _ _ _ _ _ _ rfl rfl) .nil)))), .arr _ _ _ _ _ _ rfl, .arr _ _ _ _ _ _ rfl, .arr _ _ _ _ _ _ rfl, .var _ _ lp, .var _ _ lp, trivial⟩, .same _, .same _, .same _, .same _, .same _, .same _, trivial⟩
    · refine den_round 1 [(3, 10003, false), (7, 10007, false), (9, 10009, false), (10, 10010, false), (8980, 18980, true), (9002, 19002, true), (9003, 19003, true), (10000, 19900, false), (10001, 19901, false)] _ [(10003, .var [.ptr 19900 0]), (10007, .var [.int .i64 (.lit 0), .int .i64 (.lit 0), .nilsl, .nilsl]), (10009, .var [.osl 18980]), (10010, .var [.int .i64 (.v r1.1), .int .i64 (.v r2.1), .osl 19002, .osl 19003]), (18980, .arr false 3 1 e_i64 a8.2.2.1), (19002, .arr false 3 1 e_i64 a8.2.2.2.1), (19003, .arr false 3 1 e_i64 a8.2.2.2.2), (19900, .var [.ptr 19901 0, .int .i64 (.v a8.1)]), (19901, .var [.int .i64 (.v a8.2.1), .sl 1 e_u8 y3.m_b])] (fun a8 : Int × Int × (List Int) × (List Int) × (List Int) => [(10003, .var [.ptr 19900 0]), (10007, .var [.int .i64 (.lit 0), .int .i64 (.lit 0), .nilsl, .nilsl]), (10009, .var [.osl 18980]), (10010, .var [.int .i64 (.v r1.1), .int .i64 (.v r2.1), .osl 19002, .osl 19003]), (18980, .arr false 3 1 e_i64 a8.2.2.1), (19002, .arr false 3 1 e_i64 a8.2.2.2.1), (19003, .arr false 3 1 e_i64 a8.2.2.2.2), (19900, .var [.ptr 19901 0, .int .i64 (.v a8.1)]), (19901, .var [.int .i64 (.v a8.2.1), .sl 1 e_u8 y3.m_b])]) (fun b9 : Int × Int × (List Int) × (List Int) × (List Int) => [(10003, .var [.ptr 19900 0]), (10007, .var [.int .i64 (.lit 0), .int .i64 (.lit 0), .nilsl, .nilsl]), (10009, .var [.osl 18980]), (10010, .var [.int .i64 (.v r1.1), .int .i64 (.v r2.1), .osl 19002, .osl 19003]), (18980, .arr false 3 1 e_i64 b9.2.2.1), (19002, .arr false 3 1 e_i64 b9.2.2.2.1), (19003, .arr false 3 1 e_i64 b9.2.2.2.2), (19900, .var [.ptr 19901 0, .int .i64 (.v b9.1)]), (19901, .var [.int .i64 (.v b9.2.1), .sl 1 e_u8 y3.m_b])]) (LePl.refl _ _) (fun _ => rfl) (fun _ => rfl) rfl (by (conv => cbv); exact ⟨.same _, .same _, .same _, .same _, .same _, .same _, .same _, .same _, .same _, trivial⟩) ?_ (fun a8 => ?_) (fun b9 => ?_)
      · refine round_of (c := ⟨Tx_rice_read, Gl, 118, [10003, 10007, 10009, 10010, 19900, 19901], []⟩) rfl (hP ▸ Tx_rice_read_ok) (by rw [hP]; exact eqsOk_of (by kernel_rfl)) (by rw [hP]; exact Tryz_mixed) rfl rfl rfl rfl rfl ?_ fun P hP2 _ => ?_
        · cases x1 <;> rfl
        have hP := hP2.trans hP
        unfold rice_read_L1 at h
        conv => cbv
        refine .mk ?_
        conv => cbv
        obtain ⟨t10, ht10, h⟩ := den_let h
        refine den_own' [(19900, 10000, false), (19901, 10001, false)] [] hP h (fun _ h => x_rice_reader_number h) fun r11 _ h => ?_
        conv => cbv
        refine den_cut' (r := x1) (rice_read_K2 y3 p7 a8) (fun j12 => ⟨[(3, .ptr 10003 0), (7, .ptr 10007 0), (9, .ptr 10009 0), (10, .ptr 10010 0), (13, .ptr 13 0), (14, .int .i64 (.v j12.1)), (15, .ptr 15 0)], [(13, .var [.int .i64 (.v p7.2.a0), .int .i64 (.v p7.2.a1)]), (15, .var [.int .i64 (.v j12.2.2.2)]), (10003, .var [.ptr 19900 0]), (10007, .var [.int .i64 (.lit 0), .int .i64 (.lit 0), .nilsl, .nilsl]), (10009, .var [.osl 18980]), (10010, .var [.int .i64 (.v r1.1), .int .i64 (.v r2.1), .osl 19002, .osl 19003]), (18980, .arr false 3 1 e_i64 a8.2.2.1), (19002, .arr false 3 1 e_i64 a8.2.2.2.1), (19003, .arr false 3 1 e_i64 a8.2.2.2.2), (19900, .var [.ptr 19901 0, .int .i64 (.v j12.2.1)]), (19901, .var [.int .i64 (.v j12.2.2.1), .sl 1 e_u8 y3.m_b])], []⟩) ?_ (fun j12 h => ?_)
        · conv => cbv
          refine den_call' hP h (fun _ h => v_rice_escape h) fun r106 _ h => ?_
          conv => cbv
          refine den_br h (fun _ h => ?_) (fun _ h => ?_)
          · conv => cbv
            refine den_own' [(19900, 10000, false), (19901, 10001, false)] [] hP h (fun _ h => x_rice_reader_number h) fun r107 _ h => ?_
            conv => cbv
            exact den_join' h
          conv => cbv
          exact den_join' h
        unfold rice_read_K2 at h
        conv => cbv
        refine den_cut' (r := x1) (rice_read_K3 y3 p7 a8 j12) (fun j13 => ⟨[(3, .ptr 10003 0), (7, .ptr 10007 0), (9, .ptr 10009 0), (10, .ptr 10010 0), (13, .ptr 13 0), (14, .int .i64 (.v j12.1)), (15, .ptr 15 0)], [(13, .var [.int .i64 (.v p7.2.a0), .int .i64 (.v p7.2.a1)]), (15, .var [.int .i64 (.v j12.2.2.2)]), (10003, .var [.ptr 19900 0]), (10007, .var [.int .i64 (.lit 0), .int .i64 (.lit 0), .nilsl, .nilsl]), (10009, .var [.osl 18980]), (10010, .var [.int .i64 (.v r1.1), .int .i64 (.v r2.1), .osl 19002, .osl 19003]), (18980, .arr false 3 1 e_i64 a8.2.2.1), (19002, .arr false 3 1 e_i64 j13.2), (19003, .arr false 3 1 e_i64 j13.1), (19900, .var [.ptr 19901 0, .int .i64 (.v j12.2.1)]), (19901, .var [.int .i64 (.v j12.2.2.1), .sl 1 e_u8 y3.m_b])], []⟩) ?_ (fun j13 h => ?_)
        · conv => cbv
          refine .mk (some [10010, 19002, 19003]) (by kernel_rfl) ?_
          conv => cbv
          refine ⟨?_, ?_, ?_, ?_⟩
          · refine .mk ?_
            conv => cbv
            refine ⟨?_, ?_, ?_⟩
            · refine .data ?_
              conv => cbv
              refine ⟨?_, ?_, ?_⟩
              · refine den_app_own e_i64 (xs := [j12.1]) h rfl lp fun l28 _ h => ?_
                conv => cbv
                refine ⟨?_, ?_⟩
                · refine .data ?_
                  conv => cbv
                  refine den_app_own e_i64 (xs := [j12.2.2.2]) h rfl lp fun l29 _ h => ?_
                  conv => cbv
                  refine .mk ?_
                  conv => cbv
                  exact den_join' h
                · refine .data ?_
                  conv => cbv
                  refine den_app_own e_i64 (xs := [j12.2.2.2]) h rfl lp fun l30 _ h => ?_
                  conv => cbv
                  refine .mk ?_
                  conv => cbv
                  exact den_join' h
              · refine ⟨?_, ?_⟩
                · refine den_app_own e_i64 (xs := [j12.1]) h rfl lp fun l31 _ h => ?_
                  conv => cbv
                  refine .data ?_
                  conv => cbv
                  refine den_app_own e_i64 (xs := [j12.2.2.2]) h rfl lp fun l32 _ h => ?_
                  conv => cbv
                  refine .mk ?_
                  conv => cbv
                  exact den_join' h
                · refine .data ?_
                  conv => cbv
                  refine den_app_own e_i64 (xs := [j12.1]) h rfl lp fun l33 _ h => ?_
                  conv => cbv
                  refine den_app_own e_i64 (xs := [j12.2.2.2]) h rfl lp fun l34 _ h => ?_
                  conv => cbv
                  refine .mk ?_
                  conv => cbv
                  exact den_join' h
              · refine .data ?_
                conv => cbv
                refine ⟨?_, ?_⟩
                · refine den_app_own e_i64 (xs := [j12.1]) h rfl lp fun l35 _ h => ?_
                  conv => cbv
                  refine den_app_own e_i64 (xs := [j12.2.2.2]) h rfl lp fun l36 _ h => ?_
                  conv => cbv
                  refine .mk ?_
                  conv => cbv
                  exact den_join' h
                · refine den_app_own e_i64 (xs := [j12.1]) h rfl lp fun l37 _ h => ?_
                  conv => cbv
                  refine den_app_own e_i64 (xs := [j12.2.2.2]) h rfl lp fun l38 _ h => ?_
                  conv => cbv
                  refine .mk ?_
                  conv => cbv
                  exact den_join' h
            · refine ⟨?_, ?_⟩
              · refine .data ?_
                conv => cbv
                refine ⟨?_, ?_⟩
                · refine den_app_own e_i64 (xs := [j12.1]) h rfl lp fun l39 _ h => ?_
                  conv => cbv
                  refine .data ?_
                  conv => cbv
                  refine den_app_own e_i64 (xs := [j12.2.2.2]) h rfl lp fun l40 _ h => ?_
                  conv => cbv
                  refine .mk ?_
                  conv => cbv
                  exact den_join' h
                · refine .data ?_
                  conv => cbv
                  refine den_app_own e_i64 (xs := [j12.1]) h rfl lp fun l41 _ h => ?_
                  conv => cbv
                  refine den_app_own e_i64 (xs := [j12.2.2.2]) h rfl lp fun l42 _ h => ?_
                  conv => cbv
                  refine .mk ?_
                  conv => cbv
                  exact den_join' h
              · refine .data ?_
                conv => cbv
                refine .data ?_
                conv => cbv
                refine den_app_own e_i64 (xs := [j12.1]) h rfl lp fun l43 _ h => ?_
                conv => cbv
                refine den_app_own e_i64 (xs := [j12.2.2.2]) h rfl lp fun l44 _ h => ?_
                conv => cbv
                refine .mk ?_
                conv => cbv
                exact den_join' h
            · refine .data ?_
              conv => cbv
              refine ⟨?_, ?_⟩
              · refine .data ?_
                conv => cbv
                refine ⟨?_, ?_⟩
                · refine den_app_own e_i64 (xs := [j12.1]) h rfl lp fun l45 _ h => ?_
                  conv => cbv
                  refine den_app_own e_i64 (xs := [j12.2.2.2]) h rfl lp fun l46 _ h => ?_
                  conv => cbv
                  refine .mk ?_
                  conv => cbv
                  exact den_join' h
                · refine den_app_own e_i64 (xs := [j12.1]) h rfl lp fun l47 _ h => ?_
                  conv => cbv
                  refine den_app_own e_i64 (xs := [j12.2.2.2]) h rfl lp fun l48 _ h => ?_
                  conv => cbv
                  refine .mk ?_
                  conv => cbv
                  exact den_join' h
              · refine .data ?_
                conv => cbv
                refine den_app_own e_i64 (xs := [j12.1]) h rfl lp fun l49 _ h => ?_
                conv => cbv
                refine den_app_own e_i64 (xs := [j12.2.2.2]) h rfl lp fun l50 _ h => ?_
                conv => cbv
                refine .mk ?_
                conv => cbv
                exact den_join' h
          · refine .data ?_
            conv => cbv
            refine .mk ?_
            conv => cbv
            refine ⟨?_, ?_, ?_⟩
            · refine ⟨?_, ?_, ?_⟩
              · refine den_app_own e_i64 (xs := [j12.1]) h rfl lp fun l51 _ h => ?_
                conv => cbv
                refine ⟨?_, ?_⟩
                · refine .data ?_
                  conv => cbv
                  refine den_app_own e_i64 (xs := [j12.2.2.2]) h rfl lp fun l52 _ h => ?_
                  conv => cbv
                  refine .mk ?_
                  conv => cbv
                  exact den_join' h
                · refine .data ?_
                  conv => cbv
                  refine den_app_own e_i64 (xs := [j12.2.2.2]) h rfl lp fun l53 _ h => ?_
                  conv => cbv
                  refine .mk ?_
                  conv => cbv
                  exact den_join' h
              · refine ⟨?_, ?_⟩
                · refine den_app_own e_i64 (xs := [j12.1]) h rfl lp fun l54 _ h => ?_
                  conv => cbv
                  refine .data ?_
                  conv => cbv
                  refine den_app_own e_i64 (xs := [j12.2.2.2]) h rfl lp fun l55 _ h => ?_
                  conv => cbv
                  refine .mk ?_
                  conv => cbv
                  exact den_join' h
                · refine .data ?_
                  conv => cbv
                  refine den_app_own e_i64 (xs := [j12.1]) h rfl lp fun l56 _ h => ?_
                  conv => cbv
                  refine den_app_own e_i64 (xs := [j12.2.2.2]) h rfl lp fun l57 _ h => ?_
                  conv => cbv
                  refine .mk ?_
                  conv => cbv
                  exact den_join' h
              · refine .data ?_
                conv => cbv
                refine ⟨?_, ?_⟩
                · refine den_app_own e_i64 (xs := [j12.1]) h rfl lp fun l58 _ h => ?_
                  conv => cbv
                  refine den_app_own e_i64 (xs := [j12.2.2.2]) h rfl lp fun l59 _ h => ?_
                  conv => cbv
                  refine .mk ?_
                  conv => cbv
                  exact den_join' h
                · refine den_app_own e_i64 (xs := [j12.1]) h rfl lp fun l60 _ h => ?_
                  conv => cbv
                  refine den_app_own e_i64 (xs := [j12.2.2.2]) h rfl lp fun l61 _ h => ?_
                  conv => cbv
                  refine .mk ?_
                  conv => cbv
                  exact den_join' h
            · refine ⟨?_, ?_⟩
              · refine ⟨?_, ?_⟩
                · refine den_app_own e_i64 (xs := [j12.1]) h rfl lp fun l62 _ h => ?_
                  conv => cbv
                  refine .data ?_
                  conv => cbv
                  refine den_app_own e_i64 (xs := [j12.2.2.2]) h rfl lp fun l63 _ h => ?_
                  conv => cbv
                  refine .mk ?_
                  conv => cbv
                  exact den_join' h
                · refine .data ?_
                  conv => cbv
                  refine den_app_own e_i64 (xs := [j12.1]) h rfl lp fun l64 _ h => ?_
                  conv => cbv
                  refine den_app_own e_i64 (xs := [j12.2.2.2]) h rfl lp fun l65 _ h => ?_
                  conv => cbv
                  refine .mk ?_
                  conv => cbv
                  exact den_join' h
              · refine .data ?_
                conv => cbv
                refine den_app_own e_i64 (xs := [j12.1]) h rfl lp fun l66 _ h => ?_
                conv => cbv
                refine den_app_own e_i64 (xs := [j12.2.2.2]) h rfl lp fun l67 _ h => ?_
                conv => cbv
                refine .mk ?_
                conv => cbv
                exact den_join' h
            · refine .data ?_
              conv => cbv
              refine ⟨?_, ?_⟩
              · refine ⟨?_, ?_⟩
                · refine den_app_own e_i64 (xs := [j12.1]) h rfl lp fun l68 _ h => ?_
                  conv => cbv
                  refine den_app_own e_i64 (xs := [j12.2.2.2]) h rfl lp fun l69 _ h => ?_
                  conv => cbv
                  refine .mk ?_
                  conv => cbv
                  exact den_join' h
                · refine den_app_own e_i64 (xs := [j12.1]) h rfl lp fun l70 _ h => ?_
                  conv => cbv
                  refine den_app_own e_i64 (xs := [j12.2.2.2]) h rfl lp fun l71 _ h => ?_
                  conv => cbv
                  refine .mk ?_
                  conv => cbv
                  exact den_join' h
              · refine den_app_own e_i64 (xs := [j12.1]) h rfl lp fun l72 _ h => ?_
                conv => cbv
                refine den_app_own e_i64 (xs := [j12.2.2.2]) h rfl lp fun l73 _ h => ?_
                conv => cbv
                refine .mk ?_
                conv => cbv
                exact den_join' h
          · refine .mk ?_
            conv => cbv
            refine ⟨?_, ?_, ?_⟩
            · refine ⟨?_, ?_⟩
              · refine .data ?_
                conv => cbv
                refine ⟨?_, ?_⟩
                · refine den_app_own e_i64 (xs := [j12.1]) h rfl lp fun l74 _ h => ?_
                  conv => cbv
                  refine .data ?_
                  conv => cbv
                  refine den_app_own e_i64 (xs := [j12.2.2.2]) h rfl lp fun l75 _ h => ?_
                  conv => cbv
                  refine .mk ?_
                  conv => cbv
                  exact den_join' h
                · refine .data ?_
                  conv => cbv
                  refine den_app_own e_i64 (xs := [j12.1]) h rfl lp fun l76 _ h => ?_
                  conv => cbv
                  refine den_app_own e_i64 (xs := [j12.2.2.2]) h rfl lp fun l77 _ h => ?_
                  conv => cbv
                  refine .mk ?_
                  conv => cbv
                  exact den_join' h
              · refine .data ?_
                conv => cbv
                refine .data ?_
                conv => cbv
                refine den_app_own e_i64 (xs := [j12.1]) h rfl lp fun l78 _ h => ?_
                conv => cbv
                refine den_app_own e_i64 (xs := [j12.2.2.2]) h rfl lp fun l79 _ h => ?_
                conv => cbv
                refine .mk ?_
                conv => cbv
                exact den_join' h
            · refine .data ?_
              conv => cbv
              refine ⟨?_, ?_⟩
              · refine ⟨?_, ?_⟩
                · refine den_app_own e_i64 (xs := [j12.1]) h rfl lp fun l80 _ h => ?_
                  conv => cbv
                  refine .data ?_
                  conv => cbv
                  refine den_app_own e_i64 (xs := [j12.2.2.2]) h rfl lp fun l81 _ h => ?_
                  conv => cbv
                  refine .mk ?_
                  conv => cbv
                  exact den_join' h
                · refine .data ?_
                  conv => cbv
                  refine den_app_own e_i64 (xs := [j12.1]) h rfl lp fun l82 _ h => ?_
                  conv => cbv
                  refine den_app_own e_i64 (xs := [j12.2.2.2]) h rfl lp fun l83 _ h => ?_
                  conv => cbv
                  refine .mk ?_
                  conv => cbv
                  exact den_join' h
              · refine .data ?_
                conv => cbv
                refine den_app_own e_i64 (xs := [j12.1]) h rfl lp fun l84 _ h => ?_
                conv => cbv
                refine den_app_own e_i64 (xs := [j12.2.2.2]) h rfl lp fun l85 _ h => ?_
                conv => cbv
                refine .mk ?_
                conv => cbv
                exact den_join' h
            · refine .data ?_
              conv => cbv
              refine ⟨?_, ?_⟩
              · refine .data ?_
                conv => cbv
                refine den_app_own e_i64 (xs := [j12.1]) h rfl lp fun l86 _ h => ?_
                conv => cbv
                refine den_app_own e_i64 (xs := [j12.2.2.2]) h rfl lp fun l87 _ h => ?_
                conv => cbv
                refine .mk ?_
                conv => cbv
                exact den_join' h
              · refine .data ?_
                conv => cbv
                refine den_app_own e_i64 (xs := [j12.1]) h rfl lp fun l88 _ h => ?_
                conv => cbv
                refine den_app_own e_i64 (xs := [j12.2.2.2]) h rfl lp fun l89 _ h => ?_
                conv => cbv
                refine .mk ?_
                conv => cbv
                exact den_join' h
          · refine .data ?_
            conv => cbv
            refine .mk ?_
            conv => cbv
            refine ⟨?_, ?_, ?_⟩
            · refine ⟨?_, ?_⟩
              · refine .data ?_
                conv => cbv
                refine ⟨?_, ?_⟩
                · refine den_app_own e_i64 (xs := [j12.1]) h rfl lp fun l90 _ h => ?_
                  conv => cbv
                  refine den_app_own e_i64 (xs := [j12.2.2.2]) h rfl lp fun l91 _ h => ?_
                  conv => cbv
                  refine .mk ?_
                  conv => cbv
                  exact den_join' h
                · refine den_app_own e_i64 (xs := [j12.1]) h rfl lp fun l92 _ h => ?_
                  conv => cbv
                  refine den_app_own e_i64 (xs := [j12.2.2.2]) h rfl lp fun l93 _ h => ?_
                  conv => cbv
                  refine .mk ?_
                  conv => cbv
                  exact den_join' h
              · refine .data ?_
                conv => cbv
                refine den_app_own e_i64 (xs := [j12.1]) h rfl lp fun l94 _ h => ?_
                conv => cbv
                refine den_app_own e_i64 (xs := [j12.2.2.2]) h rfl lp fun l95 _ h => ?_
                conv => cbv
                refine .mk ?_
                conv => cbv
                exact den_join' h
            · refine .data ?_
              conv => cbv
              refine ⟨?_, ?_⟩
              · refine ⟨?_, ?_⟩
                · refine den_app_own e_i64 (xs := [j12.1]) h rfl lp fun l96 _ h => ?_
                  conv => cbv
                  refine den_app_own e_i64 (xs := [j12.2.2.2]) h rfl lp fun l97 _ h => ?_
                  conv => cbv
                  refine .mk ?_
                  conv => cbv
                  exact den_join' h
                · refine den_app_own e_i64 (xs := [j12.1]) h rfl lp fun l98 _ h => ?_
                  conv => cbv
                  refine den_app_own e_i64 (xs := [j12.2.2.2]) h rfl lp fun l99 _ h => ?_
                  conv => cbv
                  refine .mk ?_
                  conv => cbv
                  exact den_join' h
              · refine den_app_own e_i64 (xs := [j12.1]) h rfl lp fun l100 _ h => ?_
                conv => cbv
                refine den_app_own e_i64 (xs := [j12.2.2.2]) h rfl lp fun l101 _ h => ?_
                conv => cbv
                refine .mk ?_
                conv => cbv
                exact den_join' h
            · refine ⟨?_, ?_⟩
              · refine .data ?_
                conv => cbv
                refine den_app_own e_i64 (xs := [j12.1]) h rfl lp fun l102 _ h => ?_
                conv => cbv
                refine den_app_own e_i64 (xs := [j12.2.2.2]) h rfl lp fun l103 _ h => ?_
                conv => cbv
                refine .mk ?_
                conv => cbv
                exact den_join' h
              · refine .data ?_
                conv => cbv
                refine den_app_own e_i64 (xs := [j12.1]) h rfl lp fun l104 _ h => ?_
                conv => cbv
                refine den_app_own e_i64 (xs := [j12.2.2.2]) h rfl lp fun l105 _ h => ?_
                conv => cbv
                refine .mk ?_
                conv => cbv
                exact den_join' h
        unfold rice_read_K3 at h
        conv => cbv
        refine .mk ?_
        conv => cbv
        refine den_loop' (rice_read_L2 y3 p7 j12 j13) h (fun a14 => ⟨[(3, .ptr 10003 0), (7, .ptr 10007 0), (9, .ptr 10009 0), (10, .ptr 10010 0), (14, .int .i64 (.v j12.1)), (15, .ptr 15 0), (89, .int .i64 (.ar .sub .i64 (.v p7.2.a1) (.v p7.2.a0))), (90, .int .i64 (.v a14.1))], [(15, .var [.int .i64 (.v j12.2.2.2)]), (10003, .var [.ptr 19900 0]), (10007, .var [.int .i64 (.lit 0), .int .i64 (.lit 0), .nilsl, .nilsl]), (10009, .var [.osl 18980]), (10010, .var [.int .i64 (.v r1.1), .int .i64 (.v r2.1), .osl 19002, .osl 19003]), (18980, .arr false 3 1 e_i64 a14.2.1), (19002, .arr false 3 1 e_i64 j13.2), (19003, .arr false 3 1 e_i64 j13.1), (19900, .var [.ptr 19901 0, .int .i64 (.v a14.2.2.1)]), (19901, .var [.int .i64 (.v a14.2.2.2), .sl 1 e_u8 y3.m_b])], []⟩) (fun _ _ a14 x2 h hb2 hx2 => ?_)
        unfold rice_read_L2 at h
        conv => cbv
        refine den_br h (fun _ h => ?_) (fun _ h => ?_)
        · conv => cbv
          refine den_cut' (r := x2) (rice_read_K4 j13 a14) (fun j15 => ⟨[(3, .ptr 10003 0), (7, .ptr 10007 0), (9, .ptr 10009 0), (10, .ptr 10010 0), (14, .int .i64 (.v j12.1)), (15, .ptr 15 0), (89, .int .i64 (.ar .sub .i64 (.v p7.2.a1) (.v p7.2.a0))), (90, .int .i64 (.v a14.1))], [(15, .var [.int .i64 (.v j12.2.2.2)]), (10003, .var [.ptr 19900 0]), (10007, .var [.int .i64 (.lit 0), .int .i64 (.lit 0), .nilsl, .nilsl]), (10009, .var [.osl 18980]), (10010, .var [.int .i64 (.v r1.1), .int .i64 (.v r2.1), .osl 19002, .osl 19003]), (18980, .arr false 3 1 e_i64 j15.1), (19002, .arr false 3 1 e_i64 j13.2), (19003, .arr false 3 1 e_i64 j13.1), (19900, .var [.ptr 19901 0, .int .i64 (.v j15.2.1)]), (19901, .var [.int .i64 (.v j15.2.2), .sl 1 e_u8 y3.m_b])], []⟩) ?_ (fun j15 h => ?_)
          · conv => cbv
            refine den_br h (fun _ h => ?_) (fun _ h => ?_)
            · conv => cbv
              refine .mk (some [15, 10003, 10009, 18980, 19900, 19901]) (by kernel_rfl) ?_
              conv => cbv
              refine ⟨?_, ?_⟩
              · refine den_own' [(19900, 10000, false), (10003, 10001, false), (15, 10002, false), (19901, 10003, false)] [] hP h (fun _ h => x_rice_reader_take_x2 h) fun r16 _ h => ?_
                conv => cbv
                refine .data ?_
                conv => cbv
                refine .mk ?_
                conv => cbv
                refine den_app_own e_i64 (xs := [r16.1]) h rfl lp fun l17 _ h => ?_
                conv => cbv
                exact den_join' h
              · refine ⟨?_, ?_⟩
                · refine den_own' [(19900, 10000, false), (10003, 10001, false), (15, 10002, false), (19901, 10003, false)] [] hP h (fun _ h => x_rice_reader_take_x2 h) fun r18 _ h => ?_
                  conv => cbv
                  refine .data ?_
                  conv => cbv
                  refine .mk ?_
                  conv => cbv
                  refine den_app_own e_i64 (xs := [r18.1]) h rfl lp fun l19 _ h => ?_
                  conv => cbv
                  exact den_join' h
                · refine den_own' [(19900, 10000, false), (10003, 10001, false), (15, 10002, false), (19901, 10003, false)] [] hP h (fun _ h => x_rice_reader_take_x2 h) fun r20 _ h => ?_
                  conv => cbv
                  refine ⟨?_, ?_⟩
                  · refine .data ?_
                    conv => cbv
                    refine .mk ?_
                    conv => cbv
                    refine den_app_own e_i64 (xs := [r20.1]) h rfl lp fun l21 _ h => ?_
                    conv => cbv
                    exact den_join' h
                  · refine .data ?_
                    conv => cbv
                    refine .mk ?_
                    conv => cbv
                    refine den_app_own e_i64 (xs := [r20.1]) h rfl lp fun l22 _ h => ?_
                    conv => cbv
                    exact den_join' h
            conv => cbv
            refine .mk (some [10009, 18980, 19900, 19901]) (by kernel_rfl) ?_
            conv => cbv
            refine ⟨?_, ?_⟩
            · refine den_own' [(19900, 10000, false), (19901, 10001, false)] [] hP h (fun _ h => x_rice_reader_coded h) fun r23 _ h => ?_
              conv => cbv
              refine .data ?_
              conv => cbv
              refine .mk ?_
              conv => cbv
              refine den_app_own e_i64 (xs := [r23.1]) h rfl lp fun l24 _ h => ?_
              conv => cbv
              exact den_join' h
            · refine den_own' [(19900, 10000, false), (19901, 10001, false)] [] hP h (fun _ h => x_rice_reader_coded h) fun r25 _ h => ?_
              conv => cbv
              refine ⟨?_, ?_⟩
              · refine .data ?_
                conv => cbv
                refine .mk ?_
                conv => cbv
                refine den_app_own e_i64 (xs := [r25.1]) h rfl lp fun l26 _ h => ?_
                conv => cbv
                exact den_join' h
              · refine .data ?_
                conv => cbv
                refine .mk ?_
                conv => cbv
                refine den_app_own e_i64 (xs := [r25.1]) h rfl lp fun l27 _ h => ?_
                conv => cbv
                exact den_join' h
          unfold rice_read_K4 at h
          conv => cbv
          refine den_br h (fun _ h => ?_) (fun _ h => ?_)
          · conv => cbv
            replace h := den_out h hx2
            obtain ⟨t0, ht0, rfl⟩ := den_inr h
            conv => cbv
            refine .mk [(10003, 10003, false), (10007, 10007, false), (10009, 10009, false), (10010, 10010, false), (18980, 18980, false), (19002, 19002, false), (19003, 19003, false), (19900, 19900, false), (19901, 19901, false)] [] rfl rfl ?_ ?_
            · conv => cbv
              subst ht0
              exact ⟨.same _, .same _, .same _, .same _, .arr _ _ _ _ _ _ rfl, .arr _ _ _ _ _ _ rfl, .arr _ _ _ _ _ _ rfl, .var _ _ lp, .var _ _ lp, trivial⟩
            conv => cbv
            exact lp
          conv => cbv
          exact den_back' h hb2
        conv => cbv
        replace h := den_out h hx2
        obtain ⟨t0, ht0, rfl⟩ := den_inl h
        conv => cbv
        refine .mk [(10003, 10003, false), (10007, 10007, false), (10009, 10009, false), (10010, 10010, false), (18980, 18980, false), (19002, 19002, false), (19003, 19003, false), (19900, 19900, false), (19901, 19901, false)] [] rfl rfl ?_ ?_
        · conv => cbv
          subst ht0
          exact ⟨.same _, .same _, .same _, .same _, .arr _ _ _ _ _ _ rfl, .arr _ _ _ _ _ _ rfl, .arr _ _ _ _ _ _ rfl, .var _ _ lp, .var _ _ lp, trivial⟩
        conv => cbv
        exact lp
      · conv => cbv
        exact lp
      · conv => cbv
        exact lp
    · unfold rice_read_K6 at h
      conv => cbv
      exact den_join' h
    · unfold rice_read_K5 at h
      conv => cbv
      exact den_join' h
  unfold rice_read_K1 at h
  conv => cbv
  refine .dup ?_
  conv => cbv
  refine .mk (some [7]) (by kernel_rfl) ?_
  conv => cbv
  refine .mk ?_
  conv => cbv
  refine .mk [(10000, 10000, false), (10001, 10001, false)] [8980] rfl rfl ?_ ?_
  · conv => cbv
    cases h
    exact ⟨.var _ _ lp, .var _ _ lp, trivial⟩
  conv => cbv
  cases h
  exact .cons _ _ _ _ (.tup _ _ lp) .nil
def Tx_rice_Read : Tab := [(25, ⟨.ptr 60, 1, 8, [.nilptr]⟩), (34, ⟨.struct [(0, 3), (1, 3), (2, 30), (3, 30)], 4, 64, [.int .i64 (.lit 0), .int .i64 (.lit 0), .nilsl, .nilsl]⟩), (133, ⟨.struct [(0, 25), (1, 27)], 2, 16, [.nilptr, .int .i64 (.lit 0)]⟩)]
theorem Tx_rice_Read_ok : TabOk Tryz.prog Tx_rice_Read := tab_ok [25, 34, 133]
theorem x_rice_Read {y0 : Int} {y1 : Int} {y2 : bits_Reader} {r : (List Int) × Int × Int × (List Int) × (List Int) × Int × Int} (h : rice_Read y0 y1 y2 = some r) : ACalls Tryz.prog Gl 52 [.ptr 10000 0, e_i64 y0, e_i64 y1] [(10000, .var [.int .i64 (.v y2.m_place.m_at), .sl 1 e_u8 y2.m_b])] (fun x o' => x = .tup [.sl 1 e_i64 r.1, .agg [.int .i64 (.v r.2.1), .int .i64 (.v r.2.2.1), .sl 1 e_i64 r.2.2.2.1, .sl 1 e_i64 r.2.2.2.2.1], .int .i64 (.v r.2.2.2.2.2.1)] ∧ o' = [(10000, .var [.int .i64 (.v r.2.2.2.2.2.2), .sl 1 e_u8 y2.m_b])]) := by
  refine acalls_of' Tx_rice_Read Gl 45 [10000] Tryz.func52 Tx_rice_Read_ok Tryz_mixed fun P hP _ => ?_
  unfold rice_Read at h
  conv => cbv
  refine den_call' hP h (fun _ h => v_rice_head h) fun r1 _ h => ?_
  conv => cbv
  refine den_br h (fun _ h => ?_) (fun _ h => ?_)
  · conv => cbv
    refine .mk [(10000, 10000, false)] [] rfl rfl ?_ ?_
    · conv => cbv
      cases h
      exact ⟨.var _ _ lp, trivial⟩
    conv => cbv
    cases h
    exact .cons _ _ _ _ (.tup _ _ lp) .nil
  conv => cbv
  refine den_own' [(10000, 10000, false)] [] hP h (fun _ h => x_bits_Reader_At h) fun r2 _ h => ?_
  conv => cbv
  refine .mk ?_
  conv => cbv
  refine den_own' [(29, 10000, false), (10000, 10001, false)] [] hP h (fun _ h => x_rice_read h) fun r3 _ h => ?_
  conv => cbv
  refine .mk ?_
  conv => cbv
  refine den_br h (fun _ h => ?_) (fun _ h => ?_)
  · conv => cbv
    refine den_own' [(10000, 10000, false)] [] hP h (fun _ h => x_bits_Reader_Seek h) fun r4 _ h => ?_
    conv => cbv
    refine .mk [(10000, 10000, false)] [] rfl rfl ?_ ?_
    · conv => cbv
      cases h
      exact ⟨.var _ _ lp, trivial⟩
    conv => cbv
    cases h
    exact .cons _ _ _ _ (.tup _ _ lp) .nil
  conv => cbv
  refine .dup ?_
  conv => cbv
  refine .mk (some [7]) (by kernel_rfl) ?_
  conv => cbv
  refine .mk [(10000, 10000, false)] [] rfl rfl ?_ ?_
  · conv => cbv
    cases h
    exact ⟨.var _ _ lp, trivial⟩
  conv => cbv
  cases h
  exact .cons _ _ _ _ (.tup _ _ lp) .nil
end Go.Proofs.YtpjbfealfmjddaaGreatDoor
