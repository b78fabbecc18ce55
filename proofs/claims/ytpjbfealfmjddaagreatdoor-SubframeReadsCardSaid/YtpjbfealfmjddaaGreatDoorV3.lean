/- That the code answers so, printed by a program. -/
import Derived.Test.YtpjbfealfmjddaaGreatDoorF1
import Derived.Test.YtpjbfealfmjddaaGreatDoorIt
import Derived.Test.YtpjbfealfmjddaaGreatDoorProg
import Derived.Test.YtpjbfealfmjddaaGreatDoorVm
set_option maxRecDepth 4000
set_option linter.all false
set_option linter.unusedVariables false
set_option linter.unusedSimpArgs false
namespace Go.Proofs.YtpjbfealfmjddaaGreatDoor
open Go Go.Vg
def Tx_bits_NewWriter : Tab := [(5, ⟨.int .u8, 1, 1, [.int .u8 (.lit 0)]⟩), (89, ⟨.struct [(0, 58), (1, 22)], 2, 32, [.int .i64 (.lit 0), .nilsl]⟩)]
theorem Tx_bits_NewWriter_ok : TabOk Tryz.prog Tx_bits_NewWriter := tab_ok [5, 89]
theorem x_bits_NewWriter {r : Unit} (h : bits_NewWriter = some r) : ACalls Tryz.prog Gl 14 [] [] (fun x o' => x = .ptr 20000 0 ∧ o' = [(20000, .var [.int .i64 (.lit 0), .osl 20001]), (20001, .arr false 5 1 e_u8 [])]) := by
  refine acalls_of' Tx_bits_NewWriter Gl 3 [] Tryz.func14 Tx_bits_NewWriter_ok Tryz_mixed fun P hP _ => ?_
  unfold bits_NewWriter at h
  conv => cbv
  refine .add 9999 5 1 e_u8 rfl rfl ?_
  refine .mk [(2, 20000, false), (9999, 20001, false)] [] rfl rfl ?_ ?_
  · conv => cbv
    cases h
    exact ⟨.var _ _ (.cons _ _ _ _ (.same _) (.cons _ _ _ _ (.own _ _ _ _ _ _ rfl rfl) .nil)), .same _, trivial⟩
  conv => cbv
  cases h
  exact lp
def T_bits_place_rest : Tab := [(3, ⟨.int .i64, 1, 8, [.int .i64 (.lit 0)]⟩), (58, ⟨.struct [(0, 3)], 1, 8, [.int .i64 (.lit 0)]⟩)]
theorem T_bits_place_rest_ok : TabOk Tryz.prog T_bits_place_rest := tab_ok [3, 58]
theorem v_bits_place_rest {y0 : bits_place} {r : Int} (h : bits_place_rest y0 = some r) : AVal Tryz.prog Gl 91 [e_bits_place y0] (e_i64 r) := by
  refine aval_of' T_bits_place_rest Gl 8 Tryz.func91 T_bits_place_rest_ok Tryz_mixed fun P hP _ => ?_
  unfold bits_place_rest at h
  conv => cbv
  refine .mk ?_
  conv => cbv
  cases h
  exact lp
def Tx_bits_Writer_put : Tab := [(3, ⟨.int .i64, 1, 8, [.int .i64 (.lit 0)]⟩), (5, ⟨.int .u8, 1, 1, [.int .u8 (.lit 0)]⟩), (22, ⟨.slice 5, 1, 24, [.nilsl]⟩), (58, ⟨.struct [(0, 3)], 1, 8, [.int .i64 (.lit 0)]⟩), (89, ⟨.struct [(0, 58), (1, 22)], 2, 32, [.int .i64 (.lit 0), .nilsl]⟩)]
theorem Tx_bits_Writer_put_ok : TabOk Tryz.prog Tx_bits_Writer_put := tab_ok [3, 5, 22, 58, 89]
theorem x_bits_Writer_put {y0 : Int} {y1 : Int} {y2 : Int} {y3 : List Int} {r : Int × (List Int)} (h : bits_Writer_put y0 y1 y2 y3 = some r) : ACalls Tryz.prog Gl 75 [.ptr 10000 0, e_i64 y0, e_i64 y1] [(10000, .var [.int .i64 (.v y2), .osl 10001]), (10001, .arr false 5 1 e_u8 y3)] (fun x o' => x = .tup [] ∧ o' = [(10000, .var [.int .i64 (.v r.1), .osl 10001]), (10001, .arr false 5 1 e_u8 r.2)]) := by
  refine acalls_of' Tx_bits_Writer_put Gl 91 [10000] Tryz.func75 Tx_bits_Writer_put_ok Tryz_mixed fun P hP _ => ?_
  unfold bits_Writer_put at h
  conv => cbv
  refine den_loop' (bits_Writer_put_L1 y1) h (fun a1 => ⟨[(0, .ptr 10000 0), (1, .int .i64 (.v a1.1)), (2, .int .i64 (.v y1))], [(10000, .var [.int .i64 (.v a1.2.1), .osl 10001]), (10001, .arr false 5 1 e_u8 a1.2.2)], []⟩) (fun _ _ a1 x1 h hb1 hx1 => ?_)
  unfold bits_Writer_put_L1 at h
  conv => cbv
  refine den_br h (fun _ h => ?_) (fun _ h => ?_)
  · conv => cbv
    refine den_cut' (r := x1) (bits_Writer_put_K1 y1 a1) (fun j2 => ⟨[(0, .ptr 10000 0), (1, .int .i64 (.v a1.1)), (2, .int .i64 (.v y1))], [(10000, .var [.int .i64 (.v a1.2.1), .osl 10001]), (10001, .arr false 5 1 e_u8 j2)], []⟩) ?_ (fun j2 h => ?_)
    · conv => cbv
      refine .mk ?_
      conv => cbv
      refine den_br h (fun _ h => ?_) (fun _ h => ?_)
      · conv => cbv
        refine .mk ?_
        conv => cbv
        refine .data ?_
        conv => cbv
        refine den_app_own e_u8 (xs := [(0 : Int)]) h rfl lp fun l7 _ h => ?_
        conv => cbv
        exact den_join' h
      conv => cbv
      exact den_join' h
    unfold bits_Writer_put_K1 at h
    conv => cbv
    refine .mk ?_
    conv => cbv
    refine den_call' hP h (fun _ h => v_bits_place_rest h) fun r3 _ h => ?_
    conv => cbv
    refine den_cut' (r := x1) (bits_Writer_put_K2 y1 a1 j2) (fun j4 => ⟨[(0, .ptr 10000 0), (1, .int .i64 (.v a1.1)), (2, .int .i64 (.v y1)), (6, .int .i64 (.v j4))], [(10000, .var [.int .i64 (.v a1.2.1), .osl 10001]), (10001, .arr false 5 1 e_u8 j2)], []⟩) ?_ (fun j4 h => ?_)
    · conv => cbv
      refine .mk ?_
      conv => cbv
      refine den_br h (fun _ h => ?_) (fun _ h => ?_)
      · conv => cbv
        exact den_join' h
      conv => cbv
      exact den_join' h
    unfold bits_Writer_put_K2 at h
    conv => cbv
    refine .mk ?_
    conv => cbv
    refine .dup ?_
    conv => cbv
    refine .mk (some [10001]) (by kernel_rfl) ?_
    conv => cbv
    refine .mk ?_
    conv => cbv
    refine den_chk h fun h => ?_
    conv => cbv
    refine den_chk h fun h => ?_
    conv => cbv
    refine .mk ?_
    conv => cbv
    refine den_chk h fun h => ?_
    conv => cbv
    refine .mk ?_
    conv => cbv
    refine den_chk h fun h => ?_
    conv => cbv
    refine den_chk h fun h => ?_
    conv => cbv
    refine .mk ?_
    conv => cbv
    refine den_eload h fun p5 _ h => ?_
    conv => cbv
    refine den_chk h fun h => ?_
    conv => cbv
    refine den_chk h fun h => ?_
    conv => cbv
    refine den_estore (f := e_u8) (arD .or .u8 p5 (IntKind.u8.wrap (shD .shl .i64 (arD .and .i64 (shD .shr .i64 y1 (W (a1.1 - j4))) (W ((shD .shl .i64 1 j4) - 1))) (W ((W (8 - (a1.2.1.tmod 8))) - j4))))) h (fun _ => CEqL.of_lepl lp rfl) fun l6 _ h => ?_
    conv => cbv
    refine .mk ?_
    conv => cbv
    refine .mk ?_
    conv => cbv
    exact den_back' h hb1
  conv => cbv
  replace h := den_out h hx1
  refine .mk [(10000, 10000, false), (10001, 10001, false)] [] rfl rfl ?_ ?_
  · conv => cbv
    cases h
    exact ⟨.var _ _ lp, .arr _ _ _ _ _ _ rfl, trivial⟩
  conv => cbv
  cases h
  exact lp
def Tx_bits_Writer_Put : Tab := [(5, ⟨.int .u8, 1, 1, [.int .u8 (.lit 0)]⟩), (51, ⟨.ptr 89, 1, 8, [.nilptr]⟩)]
theorem Tx_bits_Writer_Put_ok : TabOk Tryz.prog Tx_bits_Writer_Put := tab_ok [5, 51]
theorem x_bits_Writer_Put {y0 : Int} {y1 : Int} {y2 : Int} {y3 : List Int} {r : Int × Int × (List Int)} (h : bits_Writer_Put y0 y1 y2 y3 = some r) : ACalls Tryz.prog Gl 44 [.ptr 10000 0, e_i64 y0, e_i64 y1] [(10000, .var [.int .i64 (.v y2), .osl 10001]), (10001, .arr false 5 1 e_u8 y3)] (fun x o' => x = .int .i64 (.v r.1) ∧ o' = [(10000, .var [.int .i64 (.v r.2.1), .osl 10001]), (10001, .arr false 5 1 e_u8 r.2.2)]) := by
  refine acalls_of' Tx_bits_Writer_Put Gl 30 [10000] Tryz.func44 Tx_bits_Writer_Put_ok Tryz_mixed fun P hP _ => ?_
  unfold bits_Writer_Put at h
  conv => cbv
  refine .mk ?_
  conv => cbv
  refine den_br h (fun _ h => ?_) (fun _ h => ?_)
  · conv => cbv
    refine .mk [(10000, 10000, false), (10001, 10001, false)] [] rfl rfl ?_ ?_
    · conv => cbv
      cases h
      exact ⟨.var _ _ lp, .arr _ _ _ _ _ _ rfl, trivial⟩
    conv => cbv
    cases h
    exact lp
  conv => cbv
  refine .mk ?_
  conv => cbv
  refine den_br h (fun _ h => ?_) (fun _ h => ?_)
  · conv => cbv
    refine .mk [(10000, 10000, false), (10001, 10001, false)] [] rfl rfl ?_ ?_
    · conv => cbv
      cases h
      exact ⟨.var _ _ lp, .arr _ _ _ _ _ _ rfl, trivial⟩
    conv => cbv
    cases h
    exact lp
  conv => cbv
  refine den_chk h fun h => ?_
  conv => cbv
  refine den_br h (fun _ h => ?_) (fun _ h => ?_)
  · conv => cbv
    refine .mk [(10000, 10000, false), (10001, 10001, false)] [] rfl rfl ?_ ?_
    · conv => cbv
      cases h
      exact ⟨.var _ _ lp, .arr _ _ _ _ _ _ rfl, trivial⟩
    conv => cbv
    cases h
    exact lp
  conv => cbv
  refine den_own' [(10000, 10000, false), (10001, 10001, true)] [] hP h (fun _ h => x_bits_Writer_put h) fun r1 _ h => ?_
  conv => cbv
  refine .mk [(10000, 10000, false), (10001, 10001, false)] [] rfl rfl ?_ ?_
  · conv => cbv
    cases h
    exact ⟨.var _ _ lp, .arr _ _ _ _ _ _ rfl, trivial⟩
  conv => cbv
  cases h
  exact lp
def Tx_bits_Writer_Unary : Tab := [(5, ⟨.int .u8, 1, 1, [.int .u8 (.lit 0)]⟩), (51, ⟨.ptr 89, 1, 8, [.nilptr]⟩)]
theorem Tx_bits_Writer_Unary_ok : TabOk Tryz.prog Tx_bits_Writer_Unary := tab_ok [5, 51]
theorem x_bits_Writer_Unary {y0 : Int} {y1 : Int} {y2 : List Int} {r : Int × Int × (List Int)} (h : bits_Writer_Unary y0 y1 y2 = some r) : ACalls Tryz.prog Gl 45 [.ptr 10000 0, e_i64 y0] [(10000, .var [.int .i64 (.v y1), .osl 10001]), (10001, .arr false 5 1 e_u8 y2)] (fun x o' => x = .int .i64 (.v r.1) ∧ o' = [(10000, .var [.int .i64 (.v r.2.1), .osl 10001]), (10001, .arr false 5 1 e_u8 r.2.2)]) := by
  refine acalls_of' Tx_bits_Writer_Unary Gl 26 [10000] Tryz.func45 Tx_bits_Writer_Unary_ok Tryz_mixed fun P hP _ => ?_
  unfold bits_Writer_Unary at h
  conv => cbv
  refine .mk ?_
  conv => cbv
  refine den_br h (fun _ h => ?_) (fun _ h => ?_)
  · conv => cbv
    refine .mk [(10000, 10000, false), (10001, 10001, false)] [] rfl rfl ?_ ?_
    · conv => cbv
      cases h
      exact ⟨.var _ _ lp, .arr _ _ _ _ _ _ rfl, trivial⟩
    conv => cbv
    cases h
    exact lp
  conv => cbv
  refine den_cut' (r := r) bits_Writer_Unary_K1 (fun j1 => ⟨[(0, .ptr 10000 0), (1, .int .i64 (.v j1.1))], [(10000, .var [.int .i64 (.v j1.2.1), .osl 10001]), (10001, .arr false 5 1 e_u8 j1.2.2)], []⟩) ?_ (fun j1 h => ?_)
  · conv => cbv
    refine den_loop' bits_Writer_Unary_L1 h (fun a4 => ⟨[(0, .ptr 10000 0), (1, .int .i64 (.v a4.1))], [(10000, .var [.int .i64 (.v a4.2.1), .osl 10001]), (10001, .arr false 5 1 e_u8 a4.2.2)], []⟩) (fun _ _ a4 x1 h hb1 hx1 => ?_)
    unfold bits_Writer_Unary_L1 at h
    conv => cbv
    refine den_br h (fun _ h => ?_) (fun _ h => ?_)
    · conv => cbv
      refine den_own' [(10000, 10000, false), (10001, 10001, true)] [] hP h (fun _ h => x_bits_Writer_put h) fun r5 _ h => ?_
      conv => cbv
      exact den_back' h hb1
    conv => cbv
    replace h := den_out h hx1
    exact den_join' h
  unfold bits_Writer_Unary_K1 at h
  conv => cbv
  refine den_own' [(10000, 10000, false), (10001, 10001, true)] [] hP h (fun _ h => x_bits_Writer_put h) fun r2 _ h => ?_
  conv => cbv
  refine den_own' [(10000, 10000, false), (10001, 10001, true)] [] hP h (fun _ h => x_bits_Writer_put h) fun r3 _ h => ?_
  conv => cbv
  refine .mk [(10000, 10000, false), (10001, 10001, false)] [] rfl rfl ?_ ?_
  · conv => cbv
    cases h
    exact ⟨.var _ _ lp, .arr _ _ _ _ _ _ rfl, trivial⟩
  conv => cbv
  cases h
  exact lp
def Tx_bits_Writer_Signed : Tab := [(5, ⟨.int .u8, 1, 1, [.int .u8 (.lit 0)]⟩), (51, ⟨.ptr 89, 1, 8, [.nilptr]⟩)]
theorem Tx_bits_Writer_Signed_ok : TabOk Tryz.prog Tx_bits_Writer_Signed := tab_ok [5, 51]
theorem x_bits_Writer_Signed {y0 : Int} {y1 : Int} {y2 : Int} {y3 : List Int} {r : Int × Int × (List Int)} (h : bits_Writer_Signed y0 y1 y2 y3 = some r) : ACalls Tryz.prog Gl 46 [.ptr 10000 0, e_i64 y0, e_i64 y1] [(10000, .var [.int .i64 (.v y2), .osl 10001]), (10001, .arr false 5 1 e_u8 y3)] (fun x o' => x = .int .i64 (.v r.1) ∧ o' = [(10000, .var [.int .i64 (.v r.2.1), .osl 10001]), (10001, .arr false 5 1 e_u8 r.2.2)]) := by
  refine acalls_of' Tx_bits_Writer_Signed Gl 50 [10000] Tryz.func46 Tx_bits_Writer_Signed_ok Tryz_mixed fun P hP _ => ?_
  unfold bits_Writer_Signed at h
  conv => cbv
  refine .mk ?_
  conv => cbv
  refine den_br h (fun _ h => ?_) (fun _ h => ?_)
  · conv => cbv
    refine .mk [(10000, 10000, false), (10001, 10001, false)] [] rfl rfl ?_ ?_
    · conv => cbv
      cases h
      exact ⟨.var _ _ lp, .arr _ _ _ _ _ _ rfl, trivial⟩
    conv => cbv
    cases h
    exact lp
  conv => cbv
  refine .mk ?_
  conv => cbv
  refine .mk ?_
  conv => cbv
  refine .mk ?_
  conv => cbv
  refine den_br h (fun _ h => ?_) (fun _ h => ?_)
  · conv => cbv
    exact den_none h
  conv => cbv
  refine den_br h (fun _ h => ?_) (fun _ h => ?_)
  · conv => cbv
    refine den_chk h fun h => ?_
    conv => cbv
    refine .mk ?_
    conv => cbv
    refine den_br h (fun _ h => ?_) (fun _ h => ?_)
    · conv => cbv
      refine .mk [(10000, 10000, false), (10001, 10001, false)] [] rfl rfl ?_ ?_
      · conv => cbv
        cases h
        exact ⟨.var _ _ lp, .arr _ _ _ _ _ _ rfl, trivial⟩
      conv => cbv
      cases h
      exact lp
    conv => cbv
    refine den_chk h fun h => ?_
    conv => cbv
    refine den_br h (fun _ h => ?_) (fun _ h => ?_)
    · conv => cbv
      refine .mk [(10000, 10000, false), (10001, 10001, false)] [] rfl rfl ?_ ?_
      · conv => cbv
        cases h
        exact ⟨.var _ _ lp, .arr _ _ _ _ _ _ rfl, trivial⟩
      conv => cbv
      cases h
      exact lp
    conv => cbv
    refine .mk ?_
    conv => cbv
    refine den_chk h fun h => ?_
    conv => cbv
    obtain ⟨t1, ht1, h⟩ := den_let h
    refine den_own' [(10000, 10000, false), (10001, 10001, true)] [] hP h (fun _ h => x_bits_Writer_put h) fun r2 _ h => ?_
    conv => cbv
    refine .mk [(10000, 10000, false), (10001, 10001, false)] [] rfl rfl ?_ ?_
    · conv => cbv
      cases h
      exact ⟨.var _ _ lp, .arr _ _ _ _ _ _ rfl, trivial⟩
    conv => cbv
    cases h
    exact lp
  conv => cbv
  refine .mk ?_
  conv => cbv
  refine .mk ?_
  conv => cbv
  refine den_chk h fun h => ?_
  conv => cbv
  obtain ⟨t3, ht3, h⟩ := den_let h
  refine den_own' [(10000, 10000, false), (10001, 10001, true)] [] hP h (fun _ h => x_bits_Writer_put h) fun r4 _ h => ?_
  conv => cbv
  refine .mk [(10000, 10000, false), (10001, 10001, false)] [] rfl rfl ?_ ?_
  · conv => cbv
    cases h
    exact ⟨.var _ _ lp, .arr _ _ _ _ _ _ rfl, trivial⟩
  conv => cbv
  cases h
  exact lp
def Tx_bits_Writer_Len : Tab := [(3, ⟨.int .i64, 1, 8, [.int .i64 (.lit 0)]⟩), (5, ⟨.int .u8, 1, 1, [.int .u8 (.lit 0)]⟩), (51, ⟨.ptr 89, 1, 8, [.nilptr]⟩), (58, ⟨.struct [(0, 3)], 1, 8, [.int .i64 (.lit 0)]⟩), (89, ⟨.struct [(0, 58), (1, 22)], 2, 32, [.int .i64 (.lit 0), .nilsl]⟩)]
theorem Tx_bits_Writer_Len_ok : TabOk Tryz.prog Tx_bits_Writer_Len := tab_ok [3, 5, 51, 58, 89]
theorem x_bits_Writer_Len {y0 : Int} {y1 : List Int} {r : Unit} (h : bits_Writer_Len y0 y1 = some r) : ACalls Tryz.prog Gl 16 [.ptr 10000 0] [(10000, .var [.int .i64 (.v y0), .osl 10001]), (10001, .arr false 5 1 e_u8 y1)] (fun x o' => x = .int .i64 (.v y0) ∧ o' = [(10000, .var [.int .i64 (.v y0), .osl 10001]), (10001, .arr false 5 1 e_u8 y1)]) := by
  refine acalls_of' Tx_bits_Writer_Len Gl 10 [10000] Tryz.func16 Tx_bits_Writer_Len_ok Tryz_mixed fun P hP _ => ?_
  unfold bits_Writer_Len at h
  conv => cbv
  refine .mk ?_
  conv => cbv
  refine .mk [(10000, 10000, false), (10001, 10001, false)] [] rfl rfl ?_ ?_
  · conv => cbv
    cases h
    exact lp
  conv => cbv
  cases h
  exact lp
def Tx_slices_Clone_sbyte_byte : Tab := [(5, ⟨.int .u8, 1, 1, [.int .u8 (.lit 0)]⟩), (22, ⟨.slice 5, 1, 24, [.nilsl]⟩)]
theorem Tx_slices_Clone_sbyte_byte_ok : TabOk Tryz.prog Tx_slices_Clone_sbyte_byte := tab_ok [5, 22]
theorem x_slices_Clone_sbyte_byte {y0 : List Int} {r : (List Int)} (h : slices_Clone_sbyte_byte y0 = some r) : ACalls Tryz.prog Gl 19 [.osl 10000] [(10000, .arr false 5 1 e_u8 y0)] (fun x o' => x = .sl 1 e_u8 r ∧ o' = [(10000, .arr false 5 1 e_u8 y0)]) := by
  refine acalls_of' Tx_slices_Clone_sbyte_byte Gl 8 [] Tryz.func19 Tx_slices_Clone_sbyte_byte_ok Tryz_mixed fun P hP _ => ?_
  unfold slices_Clone_sbyte_byte at h
  conv => cbv
  refine den_nil h (fun h hl => ?_) (fun h => ?_)
  · replace h : (some []) = some r := by
      simp only [hl] at h
      simpa [app] using h
    conv => cbv
    refine .mk [(10000, 10000, false)] [] rfl rfl ?_ ?_
    · conv => cbv
      cases h
      exact lp
    conv => cbv
    cases h
    exact lp
  · conv => cbv
    refine .own e_u8 ?_
    conv => cbv
    refine den_app_own e_u8 (xs := y0) h rfl (News.map rfl) fun l1 _ h => ?_
    conv => cbv
    refine .mk [(10000, 10000, false)] [5] rfl rfl ?_ ?_
    · conv => cbv
      cases h
      exact lp
    conv => cbv
    cases h
    exact lp
def Tx_bits_Writer_Bytes : Tab := [(5, ⟨.int .u8, 1, 1, [.int .u8 (.lit 0)]⟩), (22, ⟨.slice 5, 1, 24, [.nilsl]⟩), (51, ⟨.ptr 89, 1, 8, [.nilptr]⟩), (89, ⟨.struct [(0, 58), (1, 22)], 2, 32, [.int .i64 (.lit 0), .nilsl]⟩)]
theorem Tx_bits_Writer_Bytes_ok : TabOk Tryz.prog Tx_bits_Writer_Bytes := tab_ok [5, 22, 51, 89]
theorem x_bits_Writer_Bytes {y0 : Int} {y1 : List Int} {r : (List Int)} (h : bits_Writer_Bytes y0 y1 = some r) : ACalls Tryz.prog Gl 18 [.ptr 10000 0] [(10000, .var [.int .i64 (.v y0), .osl 10001]), (10001, .arr false 5 1 e_u8 y1)] (fun x o' => x = .sl 1 e_u8 r ∧ o' = [(10000, .var [.int .i64 (.v y0), .junk]), (10001, .arr false 5 1 e_u8 y1)]) := by
  refine acalls_of' Tx_bits_Writer_Bytes Gl 10 [10000] Tryz.func18 Tx_bits_Writer_Bytes_ok Tryz_mixed fun P hP _ => ?_
  unfold bits_Writer_Bytes at h
  conv => cbv
  refine .mk ?_
  conv => cbv
  refine den_own' [(10001, 10000, true)] [] hP h (fun _ h => x_slices_Clone_sbyte_byte h) fun r1 _ h => ?_
  conv => cbv
  refine .mk [(10000, 10000, false), (10001, 10001, false)] [] rfl rfl ?_ ?_
  · conv => cbv
    cases h
    exact lp
  conv => cbv
  cases h
  exact lp
def T_slices_Clone_sbyte_byte_x2 : Tab := [(5, ⟨.int .u8, 1, 1, [.int .u8 (.lit 0)]⟩), (22, ⟨.slice 5, 1, 24, [.nilsl]⟩)]
theorem T_slices_Clone_sbyte_byte_x2_ok : TabOk Tryz.prog T_slices_Clone_sbyte_byte_x2 := tab_ok [5, 22]
theorem v_slices_Clone_sbyte_byte_x2 {y0 : List Int} {r : List Int} (h : slices_Clone_sbyte_byte_x2 y0 = some r) : AVal Tryz.prog Gl 19 [(e_sl 1 e_u8) y0] ((e_sl 1 e_u8) r) := by
  refine aval_of' T_slices_Clone_sbyte_byte_x2 Gl 8 Tryz.func19 T_slices_Clone_sbyte_byte_x2_ok Tryz_mixed fun P hP _ => ?_
  unfold slices_Clone_sbyte_byte_x2 at h
  conv => cbv
  refine den_nil h (fun h hl => ?_) (fun h => ?_)
  · replace h : (some ([] : List Int)) = some r := by
      simp only [hl] at h
      simpa [app] using h
    conv => cbv
    cases h
    exact lp
  · conv => cbv
    refine .own e_u8 ?_
    conv => cbv
    refine den_app_own e_u8 (xs := y0) h rfl (News.map rfl) fun l1 _ h => ?_
    conv => cbv
    cases h
    exact lp
def Tx_bits_NewReader : Tab := [(22, ⟨.slice 5, 1, 24, [.nilsl]⟩), (60, ⟨.struct [(0, 58), (1, 22)], 2, 32, [.int .i64 (.lit 0), .nilsl]⟩)]
theorem Tx_bits_NewReader_ok : TabOk Tryz.prog Tx_bits_NewReader := tab_ok [22, 60]
theorem x_bits_NewReader {y0 : List Int} {r : (List Int)} (h : bits_NewReader y0 = some r) : ACalls Tryz.prog Gl 5 [(e_sl 1 e_u8) y0] [] (fun x o' => x = .ptr 20000 0 ∧ o' = [(20000, .var [.int .i64 (.lit 0), .sl 1 e_u8 r])]) := by
  refine acalls_of' Tx_bits_NewReader Gl 7 [] Tryz.func5 Tx_bits_NewReader_ok Tryz_mixed fun P hP _ => ?_
  unfold bits_NewReader at h
  conv => cbv
  refine den_call' hP h (fun _ h => v_slices_Clone_sbyte_byte_x2 h) fun r1 _ h => ?_
  conv => cbv
  refine .mk [(6, 20000, false)] [] rfl rfl ?_ ?_
  · conv => cbv
    cases h
    exact ⟨.var _ _ lp, trivial⟩
  conv => cbv
  cases h
  exact lp
def Tx_bits_Reader_Seek : Tab := [(3, ⟨.int .i64, 1, 8, [.int .i64 (.lit 0)]⟩), (22, ⟨.slice 5, 1, 24, [.nilsl]⟩), (25, ⟨.ptr 60, 1, 8, [.nilptr]⟩), (58, ⟨.struct [(0, 3)], 1, 8, [.int .i64 (.lit 0)]⟩), (60, ⟨.struct [(0, 58), (1, 22)], 2, 32, [.int .i64 (.lit 0), .nilsl]⟩)]
theorem Tx_bits_Reader_Seek_ok : TabOk Tryz.prog Tx_bits_Reader_Seek := tab_ok [3, 22, 25, 58, 60]
theorem x_bits_Reader_Seek {y0 : Int} {y1 : bits_Reader} {r : Int × Int} (h : bits_Reader_Seek y0 y1 = some r) : ACalls Tryz.prog Gl 6 [.ptr 10000 0, e_i64 y0] [(10000, .var [.int .i64 (.v y1.m_place.m_at), .sl 1 e_u8 y1.m_b])] (fun x o' => x = .int .i64 (.v r.1) ∧ o' = [(10000, .var [.int .i64 (.v r.2), .sl 1 e_u8 y1.m_b])]) := by
  refine acalls_of' Tx_bits_Reader_Seek Gl 26 [10000] Tryz.func6 Tx_bits_Reader_Seek_ok Tryz_mixed fun P hP _ => ?_
  unfold bits_Reader_Seek at h
  conv => cbv
  refine .mk ?_
  conv => cbv
  refine .mk ?_
  conv => cbv
  refine den_br h (fun _ h => ?_) (fun _ h => ?_)
  · conv => cbv
    refine .mk [(10000, 10000, false)] [] rfl rfl ?_ ?_
    · conv => cbv
      cases h
      exact ⟨.var _ _ lp, trivial⟩
    conv => cbv
    cases h
    exact lp
  conv => cbv
  refine .mk ?_
  conv => cbv
  refine .mk [(10000, 10000, false)] [] rfl rfl ?_ ?_
  · conv => cbv
    cases h
    exact ⟨.var _ _ lp, trivial⟩
  conv => cbv
  cases h
  exact lp
def Tx_bits_Reader_At : Tab := [(3, ⟨.int .i64, 1, 8, [.int .i64 (.lit 0)]⟩), (25, ⟨.ptr 60, 1, 8, [.nilptr]⟩), (58, ⟨.struct [(0, 3)], 1, 8, [.int .i64 (.lit 0)]⟩), (60, ⟨.struct [(0, 58), (1, 22)], 2, 32, [.int .i64 (.lit 0), .nilsl]⟩)]
theorem Tx_bits_Reader_At_ok : TabOk Tryz.prog Tx_bits_Reader_At := tab_ok [3, 25, 58, 60]
theorem x_bits_Reader_At {y0 : bits_Reader} {r : Unit} (h : bits_Reader_At y0 = some r) : ACalls Tryz.prog Gl 7 [.ptr 10000 0] [(10000, .var [.int .i64 (.v y0.m_place.m_at), .sl 1 e_u8 y0.m_b])] (fun x o' => x = .int .i64 (.v y0.m_place.m_at) ∧ o' = [(10000, .var [.int .i64 (.v y0.m_place.m_at), .sl 1 e_u8 y0.m_b])]) := by
  refine acalls_of' Tx_bits_Reader_At Gl 10 [10000] Tryz.func7 Tx_bits_Reader_At_ok Tryz_mixed fun P hP _ => ?_
  unfold bits_Reader_At at h
  conv => cbv
  refine .mk ?_
  conv => cbv
  refine .mk [(10000, 10000, false)] [] rfl rfl ?_ ?_
  · conv => cbv
    cases h
    exact lp
  conv => cbv
  cases h
  exact lp
def Tx_bits_Reader_Left : Tab := [(3, ⟨.int .i64, 1, 8, [.int .i64 (.lit 0)]⟩), (22, ⟨.slice 5, 1, 24, [.nilsl]⟩), (25, ⟨.ptr 60, 1, 8, [.nilptr]⟩), (58, ⟨.struct [(0, 3)], 1, 8, [.int .i64 (.lit 0)]⟩), (60, ⟨.struct [(0, 58), (1, 22)], 2, 32, [.int .i64 (.lit 0), .nilsl]⟩)]
theorem Tx_bits_Reader_Left_ok : TabOk Tryz.prog Tx_bits_Reader_Left := tab_ok [3, 22, 25, 58, 60]
theorem x_bits_Reader_Left {y0 : bits_Reader} {r : Unit} (h : bits_Reader_Left y0 = some r) : ACalls Tryz.prog Gl 101 [.ptr 10000 0] [(10000, .var [.int .i64 (.v y0.m_place.m_at), .sl 1 e_u8 y0.m_b])] (fun x o' => x = .int .i64 (.ar .sub .i64 (.ar .mul .i64 (.len y0.m_b) (.lit 8)) (.v y0.m_place.m_at)) ∧ o' = [(10000, .var [.int .i64 (.v y0.m_place.m_at), .sl 1 e_u8 y0.m_b])]) := by
  refine acalls_of' Tx_bits_Reader_Left Gl 17 [10000] Tryz.func101 Tx_bits_Reader_Left_ok Tryz_mixed fun P hP _ => ?_
  unfold bits_Reader_Left at h
  conv => cbv
  refine .dup ?_
  conv => cbv
  refine .mk (some []) (by kernel_rfl) ?_
  conv => cbv
  refine .mk ?_
  conv => cbv
  refine .mk ?_
  conv => cbv
  refine .mk [(10000, 10000, false)] [] rfl rfl ?_ ?_
  · conv => cbv
    cases h
    exact lp
  conv => cbv
  cases h
  exact lp
def Tx_bits_Reader_Take : Tab := [(3, ⟨.int .i64, 1, 8, [.int .i64 (.lit 0)]⟩), (5, ⟨.int .u8, 1, 1, [.int .u8 (.lit 0)]⟩), (22, ⟨.slice 5, 1, 24, [.nilsl]⟩), (25, ⟨.ptr 60, 1, 8, [.nilptr]⟩), (58, ⟨.struct [(0, 3)], 1, 8, [.int .i64 (.lit 0)]⟩), (60, ⟨.struct [(0, 58), (1, 22)], 2, 32, [.int .i64 (.lit 0), .nilsl]⟩)]
theorem Tx_bits_Reader_Take_ok : TabOk Tryz.prog Tx_bits_Reader_Take := tab_ok [3, 5, 22, 25, 58, 60]
theorem x_bits_Reader_Take {y0 : Int} {y1 : bits_Reader} {r : Int × Int × Int} (h : bits_Reader_Take y0 y1 = some r) : ACalls Tryz.prog Gl 92 [.ptr 10000 0, e_i64 y0] [(10000, .var [.int .i64 (.v y1.m_place.m_at), .sl 1 e_u8 y1.m_b])] (fun x o' => x = .tup [.int .i64 (.v r.1), .int .i64 (.v r.2.1)] ∧ o' = [(10000, .var [.int .i64 (.v r.2.2), .sl 1 e_u8 y1.m_b])]) := by
  refine acalls_of' Tx_bits_Reader_Take Gl 82 [10000] Tryz.func92 Tx_bits_Reader_Take_ok Tryz_mixed fun P hP _ => ?_
  unfold bits_Reader_Take at h
  conv => cbv
  refine .mk ?_
  conv => cbv
  refine den_br h (fun _ h => ?_) (fun _ h => ?_)
  · conv => cbv
    refine .mk [(10000, 10000, false)] [] rfl rfl ?_ ?_
    · conv => cbv
      cases h
      exact ⟨.var _ _ lp, trivial⟩
    conv => cbv
    cases h
    exact .cons _ _ _ _ (.tup _ _ lp) .nil
  conv => cbv
  refine den_own' [(10000, 10000, false)] [] hP h (fun _ h => x_bits_Reader_Left h) fun r1 _ h => ?_
  conv => cbv
  refine den_br h (fun _ h => ?_) (fun _ h => ?_)
  · conv => cbv
    refine .mk [(10000, 10000, false)] [] rfl rfl ?_ ?_
    · conv => cbv
      cases h
      exact ⟨.var _ _ lp, trivial⟩
    conv => cbv
    cases h
    exact .cons _ _ _ _ (.tup _ _ lp) .nil
  conv => cbv
  refine den_cut' (r := r) bits_Reader_Take_K1 (fun j2 => ⟨[(6, .int .i64 (.v j2.1))], [(10000, .var [.int .i64 (.v j2.2.1), .sl 1 e_u8 y1.m_b]), (10000, .var [.int .i64 (.v j2.2.2), .sl 1 e_u8 y1.m_b])], []⟩) ?_ (fun j2 h => ?_)
  · conv => cbv
    refine den_loop' (bits_Reader_Take_L1 y1) h (fun a3 => ⟨[(0, .ptr 10000 0), (1, .int .i64 (.v a3.1)), (6, .int .i64 (.v a3.2.1))], [(10000, .var [.int .i64 (.v a3.2.2.1), .sl 1 e_u8 y1.m_b]), (10000, .var [.int .i64 (.v a3.2.2.2), .sl 1 e_u8 y1.m_b])], []⟩) (fun _ _ a3 x1 h hb1 hx1 => ?_)
    unfold bits_Reader_Take_L1 at h
    conv => cbv
    refine den_br h (fun _ h => ?_) (fun _ h => ?_)
    · conv => cbv
      refine .mk ?_
      conv => cbv
      refine .mk ?_
      conv => cbv
      refine .dup ?_
      conv => cbv
      refine .mk (some []) (by kernel_rfl) ?_
      conv => cbv
      refine den_chk h fun h => ?_
      conv => cbv
      refine .mk ?_
      conv => cbv
      refine .mk ?_
      conv => cbv
      refine den_elem h fun p4 _ h => ?_
      conv => cbv
      refine .mk ?_
      conv => cbv
      refine den_chk h fun h => ?_
      conv => cbv
      refine den_chk h fun h => ?_
      conv => cbv
      refine .mk ?_
      conv => cbv
      refine .mk ?_
      conv => cbv
      refine .mk ?_
      conv => cbv
      exact den_back' h hb1
    conv => cbv
    replace h := den_out h hx1
    exact den_join' h
  unfold bits_Reader_Take_K1 at h
  conv => cbv
  refine .mk [(10000, 10000, false)] [] rfl rfl ?_ ?_
  · conv => cbv
    cases h
    exact ⟨.var _ _ lp, trivial⟩
  conv => cbv
  cases h
  exact .cons _ _ _ _ (.tup _ _ lp) .nil
def Tx_bits_Reader_bit : Tab := [(3, ⟨.int .i64, 1, 8, [.int .i64 (.lit 0)]⟩), (5, ⟨.int .u8, 1, 1, [.int .u8 (.lit 0)]⟩), (22, ⟨.slice 5, 1, 24, [.nilsl]⟩), (60, ⟨.struct [(0, 58), (1, 22)], 2, 32, [.int .i64 (.lit 0), .nilsl]⟩)]
theorem Tx_bits_Reader_bit_ok : TabOk Tryz.prog Tx_bits_Reader_bit := tab_ok [3, 5, 22, 60]
theorem x_bits_Reader_bit {y0 : Int} {y1 : bits_Reader} {r : Int} (h : bits_Reader_bit y0 y1 = some r) : ACalls Tryz.prog Gl 93 [.ptr 10000 0, e_i64 y0] [(10000, .var [.int .i64 (.v y1.m_place.m_at), .sl 1 e_u8 y1.m_b])] (fun x o' => x = .int .i64 (.v r) ∧ o' = [(10000, .var [.int .i64 (.v y1.m_place.m_at), .sl 1 e_u8 y1.m_b])]) := by
  refine acalls_of' Tx_bits_Reader_bit Gl 19 [10000] Tryz.func93 Tx_bits_Reader_bit_ok Tryz_mixed fun P hP _ => ?_
  unfold bits_Reader_bit at h
  conv => cbv
  refine .mk ?_
  conv => cbv
  refine den_elem h fun p1 _ h => ?_
  conv => cbv
  refine .mk ?_
  conv => cbv
  refine den_chk h fun h => ?_
  conv => cbv
  refine .mk [(10000, 10000, false)] [] rfl rfl ?_ ?_
  · conv => cbv
    cases h
    exact lp
  conv => cbv
  cases h
  exact lp
def Tx_bits_Reader_Unary : Tab := [(3, ⟨.int .i64, 1, 8, [.int .i64 (.lit 0)]⟩), (5, ⟨.int .u8, 1, 1, [.int .u8 (.lit 0)]⟩), (22, ⟨.slice 5, 1, 24, [.nilsl]⟩), (25, ⟨.ptr 60, 1, 8, [.nilptr]⟩), (58, ⟨.struct [(0, 3)], 1, 8, [.int .i64 (.lit 0)]⟩), (60, ⟨.struct [(0, 58), (1, 22)], 2, 32, [.int .i64 (.lit 0), .nilsl]⟩)]
theorem Tx_bits_Reader_Unary_ok : TabOk Tryz.prog Tx_bits_Reader_Unary := tab_ok [3, 5, 22, 25, 58, 60]
theorem x_bits_Reader_Unary {y0 : bits_Reader} {r : Int × Int × Int} (h : bits_Reader_Unary y0 = some r) : ACalls Tryz.prog Gl 79 [.ptr 10000 0] [(10000, .var [.int .i64 (.v y0.m_place.m_at), .sl 1 e_u8 y0.m_b])] (fun x o' => x = .tup [.int .i64 (.v r.1), .int .i64 (.v r.2.1)] ∧ o' = [(10000, .var [.int .i64 (.v r.2.2), .sl 1 e_u8 y0.m_b])]) := by
  refine acalls_of' Tx_bits_Reader_Unary Gl 64 [10000] Tryz.func79 Tx_bits_Reader_Unary_ok Tryz_mixed fun P hP _ => ?_
  unfold bits_Reader_Unary at h
  conv => cbv
  refine .dup ?_
  conv => cbv
  refine .mk (some []) (by kernel_rfl) ?_
  conv => cbv
  refine .mk ?_
  conv => cbv
  refine .mk ?_
  conv => cbv
  refine den_cut' (r := r) (bits_Reader_Unary_K1 y0) (fun j1 => ⟨[(0, .ptr 10000 0), (4, .int .i64 (.v j1)), (5, .int .i64 (.ar .mul .i64 (.len y0.m_b) (.lit 8)))], [(10000, .var [.int .i64 (.v y0.m_place.m_at), .sl 1 e_u8 y0.m_b]), (10000, .var [.int .i64 (.v y0.m_place.m_at), .sl 1 e_u8 y0.m_b])], []⟩) ?_ (fun j1 h => ?_)
  · conv => cbv
    refine den_loop' (bits_Reader_Unary_L1 y0) h (fun a2 => ⟨[(0, .ptr 10000 0), (4, .int .i64 (.v a2)), (5, .int .i64 (.ar .mul .i64 (.len y0.m_b) (.lit 8)))], [(10000, .var [.int .i64 (.v y0.m_place.m_at), .sl 1 e_u8 y0.m_b])], []⟩) (fun _ _ a2 x1 h hb1 hx1 => ?_)
    unfold bits_Reader_Unary_L1 at h
    conv => cbv
    refine den_br h (fun _ h => ?_) (fun _ h => ?_)
    · conv => cbv
      refine .mk ?_
      conv => cbv
      refine .mk ?_
      conv => cbv
      refine den_br h (fun _ h => ?_) (fun _ h => ?_)
      · conv => cbv
        refine den_elem h fun p3 _ h => ?_
        conv => cbv
        refine den_br h (fun _ h => ?_) (fun _ h => ?_)
        · conv => cbv
          exact den_back' h hb1
        conv => cbv
        refine den_own' [(10000, 10000, false)] [] hP h (fun _ h => x_bits_Reader_bit h) fun r4 _ h => ?_
        conv => cbv
        refine den_br h (fun _ h => ?_) (fun _ h => ?_)
        · conv => cbv
          exact den_back' h hb1
        conv => cbv
        replace h := den_out h hx1
        exact den_join' h
      conv => cbv
      refine den_own' [(10000, 10000, false)] [] hP h (fun _ h => x_bits_Reader_bit h) fun r5 _ h => ?_
      conv => cbv
      refine den_br h (fun _ h => ?_) (fun _ h => ?_)
      · conv => cbv
        exact den_back' h hb1
      conv => cbv
      replace h := den_out h hx1
      exact den_join' h
    conv => cbv
    replace h := den_out h hx1
    exact den_join' h
  unfold bits_Reader_Unary_K1 at h
  conv => cbv
  refine den_br h (fun _ h => ?_) (fun _ h => ?_)
  · conv => cbv
    refine .mk [(10000, 10000, false)] [] rfl rfl ?_ ?_
    · conv => cbv
      cases h
      exact ⟨.var _ _ lp, trivial⟩
    conv => cbv
    cases h
    exact .cons _ _ _ _ (.tup _ _ lp) .nil
  conv => cbv
  refine .mk ?_
  conv => cbv
  refine .mk ?_
  conv => cbv
  refine .mk [(10000, 10000, false)] [] rfl rfl ?_ ?_
  · conv => cbv
    cases h
    exact ⟨.var _ _ lp, trivial⟩
  conv => cbv
  cases h
  exact .cons _ _ _ _ (.tup _ _ lp) .nil
def Tx_bits_Reader_Signed : Tab := []
theorem Tx_bits_Reader_Signed_ok : TabOk Tryz.prog Tx_bits_Reader_Signed := tab_ok []
theorem x_bits_Reader_Signed {y0 : Int} {y1 : bits_Reader} {r : Int × Int × Int} (h : bits_Reader_Signed y0 y1 = some r) : ACalls Tryz.prog Gl 80 [.ptr 10000 0, e_i64 y0] [(10000, .var [.int .i64 (.v y1.m_place.m_at), .sl 1 e_u8 y1.m_b])] (fun x o' => x = .tup [.int .i64 (.v r.1), .int .i64 (.v r.2.1)] ∧ o' = [(10000, .var [.int .i64 (.v r.2.2), .sl 1 e_u8 y1.m_b])]) := by
  refine acalls_of' Tx_bits_Reader_Signed Gl 33 [10000] Tryz.func80 Tx_bits_Reader_Signed_ok Tryz_mixed fun P hP _ => ?_
  unfold bits_Reader_Signed at h
  conv => cbv
  refine .mk ?_
  conv => cbv
  refine den_own' [(10000, 10000, false)] [] hP h (fun _ h => x_bits_Reader_Take h) fun r1 _ h => ?_
  conv => cbv
  refine den_cut' (r := r) (bits_Reader_Signed_K1 r1) (fun j2 => ⟨[(6, .int .i64 (.v j2)), (7, .int .i64 (.v r1.2.1))], [(10000, .var [.int .i64 (.v r1.2.2), .sl 1 e_u8 y1.m_b]), (10000, .var [.int .i64 (.v r1.2.2), .sl 1 e_u8 y1.m_b])], []⟩) ?_ (fun j2 h => ?_)
  · conv => cbv
    refine .mk ?_
    conv => cbv
    refine .mk ?_
    conv => cbv
    refine den_br h (fun _ h => ?_) (fun _ h => ?_)
    · conv => cbv
      refine den_chk h fun h => ?_
      conv => cbv
      refine den_br h (fun _ h => ?_) (fun _ h => ?_)
      · conv => cbv
        refine den_chk h fun h => ?_
        conv => cbv
        exact den_join' h
      conv => cbv
      exact den_join' h
    conv => cbv
    exact den_join' h
  unfold bits_Reader_Signed_K1 at h
  conv => cbv
  refine .mk [(10000, 10000, false)] [] rfl rfl ?_ ?_
  · conv => cbv
    cases h
    exact ⟨.var _ _ lp, trivial⟩
  conv => cbv
  cases h
  exact .cons _ _ _ _ (.tup _ _ lp) .nil
end Go.Proofs.YtpjbfealfmjddaaGreatDoor
