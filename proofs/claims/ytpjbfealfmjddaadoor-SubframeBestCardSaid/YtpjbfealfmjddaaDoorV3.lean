/- That the code answers so, printed by a program. -/
import Derived.Test.YtpjbfealfmjddaaDoorF1
import Derived.Test.YtpjbfealfmjddaaDoorIt
import Derived.Test.YtpjbfealfmjddaaDoorProg
import Derived.Test.YtpjbfealfmjddaaDoorVm
set_option maxRecDepth 4000
set_option linter.all false
set_option linter.unusedVariables false
set_option linter.unusedSimpArgs false
namespace Go.Proofs.YtpjbfealfmjddaaDoor
open Go Go.Vg
def Tx_bits_NewWriter : Tab := [(5, ⟨.int .u8, 1, 1, [.int .u8 (.lit 0)]⟩), (90, ⟨.struct [(0, 88), (1, 59)], 2, 32, [.int .i64 (.lit 0), .nilsl]⟩)]
theorem Tx_bits_NewWriter_ok : TabOk Tryd.prog Tx_bits_NewWriter := tab_ok [5, 90]
theorem x_bits_NewWriter {r : Unit} (h : bits_NewWriter = some r) : ACalls Tryd.prog Gl 20 [] [] (fun x o' => x = .ptr 20000 0 ∧ o' = [(20000, .var [.int .i64 (.lit 0), .osl 20001]), (20001, .arr false 5 1 e_u8 [])]) := by
  refine acalls_of' Tx_bits_NewWriter Gl 3 [] Tryd.func20 Tx_bits_NewWriter_ok Tryd_mixed fun P hP _ => ?_
  unfold bits_NewWriter at h
  conv => cbv
  refine .add 9999 5 1 e_u8 rfl rfl ?_
  refine .mk [(2, 20000, false), (9999, 20001, false)] [] rfl rfl ?_ ?_
  · conv => cbv
    cases h
    exact ⟨.var _ _ (.cons _ _ _ _ (.same _) (.cons _ _ _ _ (.own _ _ _ _ _ _ rfl rfl) .nil)), .same _, trivial⟩
  conv => cbv
  cases h
  exact lp
def T_bits_place_rest : Tab := [(3, ⟨.int .i64, 1, 8, [.int .i64 (.lit 0)]⟩), (88, ⟨.struct [(0, 3)], 1, 8, [.int .i64 (.lit 0)]⟩)]
theorem T_bits_place_rest_ok : TabOk Tryd.prog T_bits_place_rest := tab_ok [3, 88]
theorem v_bits_place_rest {y0 : bits_place} {r : Int} (h : bits_place_rest y0 = some r) : AVal Tryd.prog Gl 91 [e_bits_place y0] (e_i64 r) := by
  refine aval_of' T_bits_place_rest Gl 8 Tryd.func91 T_bits_place_rest_ok Tryd_mixed fun P hP _ => ?_
  unfold bits_place_rest at h
  conv => cbv
  refine .mk ?_
  conv => cbv
  cases h
  exact lp
def Tx_bits_Writer_put : Tab := [(3, ⟨.int .i64, 1, 8, [.int .i64 (.lit 0)]⟩), (5, ⟨.int .u8, 1, 1, [.int .u8 (.lit 0)]⟩), (59, ⟨.slice 5, 1, 24, [.nilsl]⟩), (88, ⟨.struct [(0, 3)], 1, 8, [.int .i64 (.lit 0)]⟩), (90, ⟨.struct [(0, 88), (1, 59)], 2, 32, [.int .i64 (.lit 0), .nilsl]⟩)]
theorem Tx_bits_Writer_put_ok : TabOk Tryd.prog Tx_bits_Writer_put := tab_ok [3, 5, 59, 88, 90]
theorem x_bits_Writer_put {y0 : Int} {y1 : Int} {y2 : Int} {y3 : List Int} {r : Int × (List Int)} (h : bits_Writer_put y0 y1 y2 y3 = some r) : ACalls Tryd.prog Gl 72 [.ptr 10000 0, e_i64 y0, e_i64 y1] [(10000, .var [.int .i64 (.v y2), .osl 10001]), (10001, .arr false 5 1 e_u8 y3)] (fun x o' => x = .tup [] ∧ o' = [(10000, .var [.int .i64 (.v r.1), .osl 10001]), (10001, .arr false 5 1 e_u8 r.2)]) := by
  refine acalls_of' Tx_bits_Writer_put Gl 91 [10000] Tryd.func72 Tx_bits_Writer_put_ok Tryd_mixed fun P hP _ => ?_
  unfold bits_Writer_put at h
  conv => cbv
  refine den_loop' (bits_Writer_put_L1 y1) h (fun a1 => ⟨[(0, .ptr 10000 0), (1, .int .i64 (.v a1.1)), (2, .int .i64 (.v y1))], [(10000, .var [.int .i64 (.v a1.2.1), .osl 10001]), (10001, .arr false 5 1 e_u8 a1.2.2)], []⟩) (fun _ _ a1 x1 h hb1 hx1 => ?_)
  unfold bits_Writer_put_L1 at h
  conv => cbv
  refine den_br h (fun _ h => ?_) (fun _ h => ?_)
  · conv => cbv
    refine den_cut' (r := x1) (bits_Writer_put_K1 y1 a1) (fun j2 => ⟨[(0, .ptr 10000 0), (1, .int .i64 (.v a1.1)), (2, .int .i64 (.v y1))], [(10000, .var [.int .i64 (.v a1.2.1), .osl 10001]), (10001, .arr false 5 1 e_u8 j2)], []⟩) ?_ (fun j2 h => ?_)
    · conv => cbv
      refine .mk ?_
      conv => cbv
      refine den_br h (fun _ h => ?_) (fun _ h => ?_)
      · conv => cbv
        refine .mk ?_
        conv => cbv
        refine .data ?_
        conv => cbv
        refine den_app_own e_u8 (xs := [(0 : Int)]) h rfl lp fun l7 _ h => ?_
        conv => cbv
        exact den_join' h
      conv => cbv
      exact den_join' h
    unfold bits_Writer_put_K1 at h
    conv => cbv
    refine .mk ?_
    conv => cbv
    refine den_call' hP h (fun _ h => v_bits_place_rest h) fun r3 _ h => ?_
    conv => cbv
    refine den_cut' (r := x1) (bits_Writer_put_K2 y1 a1 j2) (fun j4 => ⟨[(0, .ptr 10000 0), (1, .int .i64 (.v a1.1)), (2, .int .i64 (.v y1)), (6, .int .i64 (.v j4))], [(10000, .var [.int .i64 (.v a1.2.1), .osl 10001]), (10001, .arr false 5 1 e_u8 j2)], []⟩) ?_ (fun j4 h => ?_)
    · conv => cbv
      refine .mk ?_
      conv => cbv
      refine den_br h (fun _ h => ?_) (fun _ h => ?_)
      · conv => cbv
        exact den_join' h
      conv => cbv
      exact den_join' h
    unfold bits_Writer_put_K2 at h
    conv => cbv
    refine .mk ?_
    conv => cbv
    refine .dup ?_
    conv => cbv
    refine .mk (some [10001]) (by kernel_rfl) ?_
    conv => cbv
    refine .mk ?_
    conv => cbv
    refine den_chk h fun h => ?_
    conv => cbv
    refine den_chk h fun h => ?_
    conv => cbv
    refine .mk ?_
    conv => cbv
    refine den_chk h fun h => ?_
    conv => cbv
    refine .mk ?_
    conv => cbv
    refine den_chk h fun h => ?_
    conv => cbv
    refine den_chk h fun h => ?_
    conv => cbv
    refine .mk ?_
    conv => cbv
    refine den_eload h fun p5 _ h => ?_
    conv => cbv
    refine den_chk h fun h => ?_
    conv => cbv
    refine den_chk h fun h => ?_
    conv => cbv
    refine den_estore (f := e_u8) (arD .or .u8 p5 (IntKind.u8.wrap (shD .shl .i64 (arD .and .i64 (shD .shr .i64 y1 (W (a1.1 - j4))) (W ((shD .shl .i64 1 j4) - 1))) (W ((W (8 - (a1.2.1.tmod 8))) - j4))))) h (fun _ => CEqL.of_lepl lp rfl) fun l6 _ h => ?_
    conv => cbv
    refine .mk ?_
    conv => cbv
    refine .mk ?_
    conv => cbv
    exact den_back' h hb1
  conv => cbv
  replace h := den_out h hx1
  refine .mk [(10000, 10000, false), (10001, 10001, false)] [] rfl rfl ?_ ?_
  · conv => cbv
    cases h
    exact ⟨.var _ _ lp, .arr _ _ _ _ _ _ rfl, trivial⟩
  conv => cbv
  cases h
  exact lp
def Tx_bits_Writer_Put : Tab := [(5, ⟨.int .u8, 1, 1, [.int .u8 (.lit 0)]⟩), (52, ⟨.ptr 90, 1, 8, [.nilptr]⟩)]
theorem Tx_bits_Writer_Put_ok : TabOk Tryd.prog Tx_bits_Writer_Put := tab_ok [5, 52]
theorem x_bits_Writer_Put {y0 : Int} {y1 : Int} {y2 : Int} {y3 : List Int} {r : Int × Int × (List Int)} (h : bits_Writer_Put y0 y1 y2 y3 = some r) : ACalls Tryd.prog Gl 50 [.ptr 10000 0, e_i64 y0, e_i64 y1] [(10000, .var [.int .i64 (.v y2), .osl 10001]), (10001, .arr false 5 1 e_u8 y3)] (fun x o' => x = .int .i64 (.v r.1) ∧ o' = [(10000, .var [.int .i64 (.v r.2.1), .osl 10001]), (10001, .arr false 5 1 e_u8 r.2.2)]) := by
  refine acalls_of' Tx_bits_Writer_Put Gl 30 [10000] Tryd.func50 Tx_bits_Writer_Put_ok Tryd_mixed fun P hP _ => ?_
  unfold bits_Writer_Put at h
  conv => cbv
  refine .mk ?_
  conv => cbv
  refine den_br h (fun _ h => ?_) (fun _ h => ?_)
  · conv => cbv
    refine .mk [(10000, 10000, false), (10001, 10001, false)] [] rfl rfl ?_ ?_
    · conv => cbv
      cases h
      exact ⟨.var _ _ lp, .arr _ _ _ _ _ _ rfl, trivial⟩
    conv => cbv
    cases h
    exact lp
  conv => cbv
  refine .mk ?_
  conv => cbv
  refine den_br h (fun _ h => ?_) (fun _ h => ?_)
  · conv => cbv
    refine .mk [(10000, 10000, false), (10001, 10001, false)] [] rfl rfl ?_ ?_
    · conv => cbv
      cases h
      exact ⟨.var _ _ lp, .arr _ _ _ _ _ _ rfl, trivial⟩
    conv => cbv
    cases h
    exact lp
  conv => cbv
  refine den_chk h fun h => ?_
  conv => cbv
  refine den_br h (fun _ h => ?_) (fun _ h => ?_)
  · conv => cbv
    refine .mk [(10000, 10000, false), (10001, 10001, false)] [] rfl rfl ?_ ?_
    · conv => cbv
      cases h
      exact ⟨.var _ _ lp, .arr _ _ _ _ _ _ rfl, trivial⟩
    conv => cbv
    cases h
    exact lp
  conv => cbv
  refine den_own' [(10000, 10000, false), (10001, 10001, true)] [] hP h (fun _ h => x_bits_Writer_put h) fun r1 _ h => ?_
  conv => cbv
  refine .mk [(10000, 10000, false), (10001, 10001, false)] [] rfl rfl ?_ ?_
  · conv => cbv
    cases h
    exact ⟨.var _ _ lp, .arr _ _ _ _ _ _ rfl, trivial⟩
  conv => cbv
  cases h
  exact lp
def Tx_bits_Writer_Unary : Tab := [(5, ⟨.int .u8, 1, 1, [.int .u8 (.lit 0)]⟩), (52, ⟨.ptr 90, 1, 8, [.nilptr]⟩)]
theorem Tx_bits_Writer_Unary_ok : TabOk Tryd.prog Tx_bits_Writer_Unary := tab_ok [5, 52]
theorem x_bits_Writer_Unary {y0 : Int} {y1 : Int} {y2 : List Int} {r : Int × Int × (List Int)} (h : bits_Writer_Unary y0 y1 y2 = some r) : ACalls Tryd.prog Gl 51 [.ptr 10000 0, e_i64 y0] [(10000, .var [.int .i64 (.v y1), .osl 10001]), (10001, .arr false 5 1 e_u8 y2)] (fun x o' => x = .int .i64 (.v r.1) ∧ o' = [(10000, .var [.int .i64 (.v r.2.1), .osl 10001]), (10001, .arr false 5 1 e_u8 r.2.2)]) := by
  refine acalls_of' Tx_bits_Writer_Unary Gl 26 [10000] Tryd.func51 Tx_bits_Writer_Unary_ok Tryd_mixed fun P hP _ => ?_
  unfold bits_Writer_Unary at h
  conv => cbv
  refine .mk ?_
  conv => cbv
  refine den_br h (fun _ h => ?_) (fun _ h => ?_)
  · conv => cbv
    refine .mk [(10000, 10000, false), (10001, 10001, false)] [] rfl rfl ?_ ?_
    · conv => cbv
      cases h
      exact ⟨.var _ _ lp, .arr _ _ _ _ _ _ rfl, trivial⟩
    conv => cbv
    cases h
    exact lp
  conv => cbv
  refine den_cut' (r := r) bits_Writer_Unary_K1 (fun j1 => ⟨[(0, .ptr 10000 0), (1, .int .i64 (.v j1.1))], [(10000, .var [.int .i64 (.v j1.2.1), .osl 10001]), (10001, .arr false 5 1 e_u8 j1.2.2)], []⟩) ?_ (fun j1 h => ?_)
  · conv => cbv
    refine den_loop' bits_Writer_Unary_L1 h (fun a4 => ⟨[(0, .ptr 10000 0), (1, .int .i64 (.v a4.1))], [(10000, .var [.int .i64 (.v a4.2.1), .osl 10001]), (10001, .arr false 5 1 e_u8 a4.2.2)], []⟩) (fun _ _ a4 x1 h hb1 hx1 => ?_)
    unfold bits_Writer_Unary_L1 at h
    conv => cbv
    refine den_br h (fun _ h => ?_) (fun _ h => ?_)
    · conv => cbv
      refine den_own' [(10000, 10000, false), (10001, 10001, true)] [] hP h (fun _ h => x_bits_Writer_put h) fun r5 _ h => ?_
      conv => cbv
      exact den_back' h hb1
    conv => cbv
    replace h := den_out h hx1
    exact den_join' h
  unfold bits_Writer_Unary_K1 at h
  conv => cbv
  refine den_own' [(10000, 10000, false), (10001, 10001, true)] [] hP h (fun _ h => x_bits_Writer_put h) fun r2 _ h => ?_
  conv => cbv
  refine den_own' [(10000, 10000, false), (10001, 10001, true)] [] hP h (fun _ h => x_bits_Writer_put h) fun r3 _ h => ?_
  conv => cbv
  refine .mk [(10000, 10000, false), (10001, 10001, false)] [] rfl rfl ?_ ?_
  · conv => cbv
    cases h
    exact ⟨.var _ _ lp, .arr _ _ _ _ _ _ rfl, trivial⟩
  conv => cbv
  cases h
  exact lp
def Tx_bits_Writer_Signed : Tab := [(5, ⟨.int .u8, 1, 1, [.int .u8 (.lit 0)]⟩), (52, ⟨.ptr 90, 1, 8, [.nilptr]⟩)]
theorem Tx_bits_Writer_Signed_ok : TabOk Tryd.prog Tx_bits_Writer_Signed := tab_ok [5, 52]
theorem x_bits_Writer_Signed {y0 : Int} {y1 : Int} {y2 : Int} {y3 : List Int} {r : Int × Int × (List Int)} (h : bits_Writer_Signed y0 y1 y2 y3 = some r) : ACalls Tryd.prog Gl 52 [.ptr 10000 0, e_i64 y0, e_i64 y1] [(10000, .var [.int .i64 (.v y2), .osl 10001]), (10001, .arr false 5 1 e_u8 y3)] (fun x o' => x = .int .i64 (.v r.1) ∧ o' = [(10000, .var [.int .i64 (.v r.2.1), .osl 10001]), (10001, .arr false 5 1 e_u8 r.2.2)]) := by
  refine acalls_of' Tx_bits_Writer_Signed Gl 50 [10000] Tryd.func52 Tx_bits_Writer_Signed_ok Tryd_mixed fun P hP _ => ?_
  unfold bits_Writer_Signed at h
  conv => cbv
  refine .mk ?_
  conv => cbv
  refine den_br h (fun _ h => ?_) (fun _ h => ?_)
  · conv => cbv
    refine .mk [(10000, 10000, false), (10001, 10001, false)] [] rfl rfl ?_ ?_
    · conv => cbv
      cases h
      exact ⟨.var _ _ lp, .arr _ _ _ _ _ _ rfl, trivial⟩
    conv => cbv
    cases h
    exact lp
  conv => cbv
  refine .mk ?_
  conv => cbv
  refine .mk ?_
  conv => cbv
  refine .mk ?_
  conv => cbv
  refine den_br h (fun _ h => ?_) (fun _ h => ?_)
  · conv => cbv
    exact den_none h
  conv => cbv
  refine den_br h (fun _ h => ?_) (fun _ h => ?_)
  · conv => cbv
    refine den_chk h fun h => ?_
    conv => cbv
    refine .mk ?_
    conv => cbv
    refine den_br h (fun _ h => ?_) (fun _ h => ?_)
    · conv => cbv
      refine .mk [(10000, 10000, false), (10001, 10001, false)] [] rfl rfl ?_ ?_
      · conv => cbv
        cases h
        exact ⟨.var _ _ lp, .arr _ _ _ _ _ _ rfl, trivial⟩
      conv => cbv
      cases h
      exact lp
    conv => cbv
    refine den_chk h fun h => ?_
    conv => cbv
    refine den_br h (fun _ h => ?_) (fun _ h => ?_)
    · conv => cbv
      refine .mk [(10000, 10000, false), (10001, 10001, false)] [] rfl rfl ?_ ?_
      · conv => cbv
        cases h
        exact ⟨.var _ _ lp, .arr _ _ _ _ _ _ rfl, trivial⟩
      conv => cbv
      cases h
      exact lp
    conv => cbv
    refine .mk ?_
    conv => cbv
    refine den_chk h fun h => ?_
    conv => cbv
    obtain ⟨t1, ht1, h⟩ := den_let h
    refine den_own' [(10000, 10000, false), (10001, 10001, true)] [] hP h (fun _ h => x_bits_Writer_put h) fun r2 _ h => ?_
    conv => cbv
    refine .mk [(10000, 10000, false), (10001, 10001, false)] [] rfl rfl ?_ ?_
    · conv => cbv
      cases h
      exact ⟨.var _ _ lp, .arr _ _ _ _ _ _ rfl, trivial⟩
    conv => cbv
    cases h
    exact lp
  conv => cbv
  refine .mk ?_
  conv => cbv
  refine .mk ?_
  conv => cbv
  refine den_chk h fun h => ?_
  conv => cbv
  obtain ⟨t3, ht3, h⟩ := den_let h
  refine den_own' [(10000, 10000, false), (10001, 10001, true)] [] hP h (fun _ h => x_bits_Writer_put h) fun r4 _ h => ?_
  conv => cbv
  refine .mk [(10000, 10000, false), (10001, 10001, false)] [] rfl rfl ?_ ?_
  · conv => cbv
    cases h
    exact ⟨.var _ _ lp, .arr _ _ _ _ _ _ rfl, trivial⟩
  conv => cbv
  cases h
  exact lp
def Tx_bits_Writer_Len : Tab := [(3, ⟨.int .i64, 1, 8, [.int .i64 (.lit 0)]⟩), (5, ⟨.int .u8, 1, 1, [.int .u8 (.lit 0)]⟩), (52, ⟨.ptr 90, 1, 8, [.nilptr]⟩), (88, ⟨.struct [(0, 3)], 1, 8, [.int .i64 (.lit 0)]⟩), (90, ⟨.struct [(0, 88), (1, 59)], 2, 32, [.int .i64 (.lit 0), .nilsl]⟩)]
theorem Tx_bits_Writer_Len_ok : TabOk Tryd.prog Tx_bits_Writer_Len := tab_ok [3, 5, 52, 88, 90]
theorem x_bits_Writer_Len {y0 : Int} {y1 : List Int} {r : Unit} (h : bits_Writer_Len y0 y1 = some r) : ACalls Tryd.prog Gl 22 [.ptr 10000 0] [(10000, .var [.int .i64 (.v y0), .osl 10001]), (10001, .arr false 5 1 e_u8 y1)] (fun x o' => x = .int .i64 (.v y0) ∧ o' = [(10000, .var [.int .i64 (.v y0), .osl 10001]), (10001, .arr false 5 1 e_u8 y1)]) := by
  refine acalls_of' Tx_bits_Writer_Len Gl 10 [10000] Tryd.func22 Tx_bits_Writer_Len_ok Tryd_mixed fun P hP _ => ?_
  unfold bits_Writer_Len at h
  conv => cbv
  refine .mk ?_
  conv => cbv
  refine .mk [(10000, 10000, false), (10001, 10001, false)] [] rfl rfl ?_ ?_
  · conv => cbv
    cases h
    exact lp
  conv => cbv
  cases h
  exact lp
def Tx_slices_Clone_sbyte_byte : Tab := [(5, ⟨.int .u8, 1, 1, [.int .u8 (.lit 0)]⟩), (59, ⟨.slice 5, 1, 24, [.nilsl]⟩)]
theorem Tx_slices_Clone_sbyte_byte_ok : TabOk Tryd.prog Tx_slices_Clone_sbyte_byte := tab_ok [5, 59]
theorem x_slices_Clone_sbyte_byte {y0 : List Int} {r : (List Int)} (h : slices_Clone_sbyte_byte y0 = some r) : ACalls Tryd.prog Gl 54 [.osl 10000] [(10000, .arr false 5 1 e_u8 y0)] (fun x o' => x = .sl 1 e_u8 r ∧ o' = [(10000, .arr false 5 1 e_u8 y0)]) := by
  refine acalls_of' Tx_slices_Clone_sbyte_byte Gl 8 [] Tryd.func54 Tx_slices_Clone_sbyte_byte_ok Tryd_mixed fun P hP _ => ?_
  unfold slices_Clone_sbyte_byte at h
  conv => cbv
  refine den_nil h (fun h hl => ?_) (fun h => ?_)
  · replace h : (some []) = some r := by
      simp only [hl] at h
      simpa [app] using h
    conv => cbv
    refine .mk [(10000, 10000, false)] [] rfl rfl ?_ ?_
    · conv => cbv
      cases h
      exact lp
    conv => cbv
    cases h
    exact lp
  · conv => cbv
    refine .own e_u8 ?_
    conv => cbv
    refine den_app_own e_u8 (xs := y0) h rfl (News.map rfl) fun l1 _ h => ?_
    conv => cbv
    refine .mk [(10000, 10000, false)] [5] rfl rfl ?_ ?_
    · conv => cbv
      cases h
      exact lp
    conv => cbv
    cases h
    exact lp
def Tx_bits_Writer_Bytes : Tab := [(5, ⟨.int .u8, 1, 1, [.int .u8 (.lit 0)]⟩), (52, ⟨.ptr 90, 1, 8, [.nilptr]⟩), (59, ⟨.slice 5, 1, 24, [.nilsl]⟩), (90, ⟨.struct [(0, 88), (1, 59)], 2, 32, [.int .i64 (.lit 0), .nilsl]⟩)]
theorem Tx_bits_Writer_Bytes_ok : TabOk Tryd.prog Tx_bits_Writer_Bytes := tab_ok [5, 52, 59, 90]
theorem x_bits_Writer_Bytes {y0 : Int} {y1 : List Int} {r : (List Int)} (h : bits_Writer_Bytes y0 y1 = some r) : ACalls Tryd.prog Gl 26 [.ptr 10000 0] [(10000, .var [.int .i64 (.v y0), .osl 10001]), (10001, .arr false 5 1 e_u8 y1)] (fun x o' => x = .sl 1 e_u8 r ∧ o' = [(10000, .var [.int .i64 (.v y0), .junk]), (10001, .arr false 5 1 e_u8 y1)]) := by
  refine acalls_of' Tx_bits_Writer_Bytes Gl 10 [10000] Tryd.func26 Tx_bits_Writer_Bytes_ok Tryd_mixed fun P hP _ => ?_
  unfold bits_Writer_Bytes at h
  conv => cbv
  refine .mk ?_
  conv => cbv
  refine den_own' [(10001, 10000, true)] [] hP h (fun _ h => x_slices_Clone_sbyte_byte h) fun r1 _ h => ?_
  conv => cbv
  refine .mk [(10000, 10000, false), (10001, 10001, false)] [] rfl rfl ?_ ?_
  · conv => cbv
    cases h
    exact lp
  conv => cbv
  cases h
  exact lp
end Go.Proofs.YtpjbfealfmjddaaDoor
