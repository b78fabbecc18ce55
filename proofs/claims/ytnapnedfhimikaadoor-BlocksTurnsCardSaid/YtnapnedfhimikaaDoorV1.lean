/- That the code answers so, printed by a program. -/
import Derived.Test.YtnapnedfhimikaaDoorF1
import Derived.Test.YtnapnedfhimikaaDoorK4
import Derived.Test.YtnapnedfhimikaaDoorK3
import Derived.Test.YtnapnedfhimikaaDoorProg
set_option maxRecDepth 4000
set_option linter.all false
set_option linter.unusedVariables false
set_option linter.unusedSimpArgs false
namespace Go.Proofs.YtnapnedfhimikaaDoor
open Go Go.Vg
theorem Tryd_mixed : Tryd.prog.follows .mixedOrders = true := by kernel_rfl
def T_jetsamlaw12_Few : Tab := [(22, ⟨.slice 38, 1, 24, [.nilsl]⟩), (29, ⟨.slice 5, 1, 24, [.nilsl]⟩), (38, ⟨.struct [(0, 3), (1, 29)], 2, 32, [.int .i64 (.lit 0), .nilsl]⟩)]
theorem T_jetsamlaw12_Few_ok : TabOk Tryd.prog T_jetsamlaw12_Few := by
  have h : T_jetsamlaw12_Few = tabOf Tryd.prog [22, 29, 38] := by kernel_rfl
  rw [h]; exact tabOk_of (by kernel_rfl)
theorem v_jetsamlaw12_Few {y0 : List blocks_Block} {r : Bool} (h : jetsamlaw12_Few y0 = some r) : AVal Tryd.prog [] 5 [(e_sl 2 e_blocks_Block) y0] (e_bool r) := by
  refine aval_of (c := ⟨T_jetsamlaw12_Few, [], 20, [], []⟩) Tryd.func5 (by kernel_rfl) rfl rfl rfl T_jetsamlaw12_Few_ok (eqsOk_of (by kernel_rfl)) Tryd_mixed rfl fun P hP _ => ?_
  unfold jetsamlaw12_Few at h
  conv => cbv
  refine den_cut (r := r) (fun j1 : Unit => ⟨[(0, .sl 2 e_blocks_Block y0)], [], []⟩) (jetsamlaw12_Few_K1 y0) ?_ (fun j1 h => ?_)
  · conv => cbv
    refine den_loop (jetsamlaw12_Few_L1 y0) h (fun a2 : Int => ⟨[(0, .sl 2 e_blocks_Block y0), (3, .int .i64 (.v a2))], [], []⟩) ?_ (fun _ _ a2 x1 h hb1 hx1 => ?_)
    · intro j0 hj
      conv => cbv
      subst hj
      exact ⟨.same _, .int _ _ _ rfl, trivial⟩
    · unfold jetsamlaw12_Few_L1 at h
      conv => cbv
      refine den_br h (fun _ h => ?_) (fun _ h => ?_)
      · conv => cbv
        refine .mk ?_
        conv => cbv
        refine den_elem h fun p3 _ h => ?_
        conv => cbv
        refine den_br h (fun _ h => ?_) (fun _ h => ?_)
        · conv => cbv
          replace h := den_out h hx1
          cases h
          exact .bool _ _ rfl
        · conv => cbv
          refine den_back h hb1 fun j0 hj => ?_
          conv => cbv
          subst hj
          exact ⟨.same _, .int _ _ _ rfl, trivial⟩
      · conv => cbv
        replace h := den_out h hx1
        refine den_join h fun j0 hj => ?_
        conv => cbv
        subst hj
        exact ⟨.same _, trivial⟩
  · unfold jetsamlaw12_Few_K1 at h
    conv => cbv
    cases h
    exact .bool _ _ rfl
def T_blocks_Zeros : Tab := [(3, ⟨.int .i64, 1, 8, [.int .i64 (.lit 0)]⟩), (5, ⟨.int .u8, 1, 1, [.int .u8 (.lit 0)]⟩), (29, ⟨.slice 5, 1, 24, [.nilsl]⟩), (38, ⟨.struct [(0, 3), (1, 29)], 2, 32, [.int .i64 (.lit 0), .nilsl]⟩)]
theorem T_blocks_Zeros_ok : TabOk Tryd.prog T_blocks_Zeros := by
  have h : T_blocks_Zeros = tabOf Tryd.prog [3, 5, 29, 38] := by kernel_rfl
  rw [h]; exact tabOk_of (by kernel_rfl)
theorem v_blocks_Zeros {y0 : Int} {r : blocks_Block × Int} (h : blocks_Zeros y0 = some r) : AVal Tryd.prog [] 13 [e_i64 y0] (.tup [e_blocks_Block r.1, e_i64 r.2]) := by
  refine aval_of (c := ⟨T_blocks_Zeros, [], 14, [], []⟩) Tryd.func13 (by kernel_rfl) rfl rfl rfl T_blocks_Zeros_ok (eqsOk_of (by kernel_rfl)) Tryd_mixed rfl fun P hP _ => ?_
  unfold blocks_Zeros at h
  conv => cbv
  refine .mk ?_
  conv => cbv
  refine den_br h (fun _ h => ?_) (fun _ h => ?_)
  · conv => cbv
    cases h
    exact .tup _ _ (.cons _ _ _ _ (.agg _ _ (.cons _ _ _ _ (.int _ _ _ rfl) (.cons _ _ _ _ (.nil _ _ _ rfl) .nil))) (.cons _ _ _ _ (.int _ _ _ rfl) .nil))
  · conv => cbv
    refine den_make e_u8 (x := (0 : Int)) h (CEqL.of_lepl (.cons _ _ _ _ (.int _ _ _ rfl) .nil) rfl) fun l1 _ h => ?_
    conv => cbv
    cases h
    exact .tup _ _ (.cons _ _ _ _ (.agg _ _ (.cons _ _ _ _ (.int _ _ _ rfl) (.cons _ _ _ _ (.sl _ _ _ _ rfl) .nil))) (.cons _ _ _ _ (.int _ _ _ rfl) .nil))
def T_blocks_big : Tab := [(3, ⟨.int .i64, 1, 8, [.int .i64 (.lit 0)]⟩), (5, ⟨.int .u8, 1, 1, [.int .u8 (.lit 0)]⟩), (29, ⟨.slice 5, 1, 24, [.nilsl]⟩)]
theorem T_blocks_big_ok : TabOk Tryd.prog T_blocks_big := by
  have h : T_blocks_big = tabOf Tryd.prog [3, 5, 29] := by kernel_rfl
  rw [h]; exact tabOk_of (by kernel_rfl)
theorem v_blocks_big {y0 : Int} {y1 : Int} {r : List Int} (h : blocks_big y0 y1 = some r) : AVal Tryd.prog [] 16 [e_i64 y0, e_i64 y1] ((e_sl 1 e_u8) r) := by
  refine aval_of (c := ⟨T_blocks_big, [], 27, [], []⟩) Tryd.func16 (by kernel_rfl) rfl rfl rfl T_blocks_big_ok (eqsOk_of (by kernel_rfl)) Tryd_mixed rfl fun P hP _ => ?_
  unfold blocks_big at h
  conv => cbv
  refine den_make e_u8 (x := (0 : Int)) h (CEqL.of_lepl (.cons _ _ _ _ (.int _ _ _ rfl) .nil) rfl) fun l1 _ h => ?_
  conv => cbv
  refine den_cut (r := r) (fun j2 : (List Int) => ⟨[(5, .osl 8)], [(8, .arr false 5 1 e_u8 j2)], []⟩) blocks_big_K1 ?_ (fun j2 h => ?_)
  · conv => cbv
    refine den_loop (blocks_big_L1 y0 y1 l1) h (fun a3 : Int × (List Int) => ⟨[(0, .int .i64 (.v y0)), (1, .int .i64 (.v y1)), (5, .osl 8), (10, .int .i64 (.len l1)), (11, .int .i64 (.v a3.1))], [(8, .arr false 5 1 e_u8 a3.2)], []⟩) ?_ (fun _ _ a3 x1 h hb1 hx1 => ?_)
    · intro j0 hj
      conv => cbv
      subst hj
      exact ⟨⟨.arr _ _ _ _ _ _ rfl, trivial⟩, .same _, .same _, .same _, .same _, .int _ _ _ rfl, trivial⟩
    · unfold blocks_big_L1 at h
      conv => cbv
      refine den_br h (fun _ h => ?_) (fun _ h => ?_)
      · conv => cbv
        refine .mk ?_
        conv => cbv
        refine .mk ?_
        conv => cbv
        refine den_chk h fun h => ?_
        conv => cbv
        refine den_chk h fun h => ?_
        conv => cbv
        refine den_chk h fun h => ?_
        conv => cbv
        refine den_estore (f := e_u8) (IntKind.u8.wrap (shD .shr .i64 y0 (W (8 * a3.1)))) h (fun _ => CEqL.of_lepl (.cons _ _ _ _ (.int _ _ _ rfl) .nil) rfl) fun l4 _ h => ?_
        conv => cbv
        refine den_back h hb1 fun j0 hj => ?_
        conv => cbv
        subst hj
        exact ⟨⟨.arr _ _ _ _ _ _ rfl, trivial⟩, .same _, .same _, .same _, .same _, .int _ _ _ rfl, trivial⟩
      · conv => cbv
        replace h := den_out h hx1
        refine den_join h fun j0 hj => ?_
        conv => cbv
        subst hj
        exact ⟨⟨.arr _ _ _ _ _ _ rfl, trivial⟩, .same _, trivial⟩
  · unfold blocks_big_K1 at h
    conv => cbv
    cases h
    exact .same _
def T_slices_Concat_sbyte_byte : Tab := [(5, ⟨.int .u8, 1, 1, [.int .u8 (.lit 0)]⟩), (26, ⟨.slice 29, 1, 24, [.nilsl]⟩), (29, ⟨.slice 5, 1, 24, [.nilsl]⟩)]
theorem T_slices_Concat_sbyte_byte_ok : TabOk Tryd.prog T_slices_Concat_sbyte_byte := by
  have h : T_slices_Concat_sbyte_byte = tabOf Tryd.prog [5, 26, 29] := by kernel_rfl
  rw [h]; exact tabOk_of (by kernel_rfl)
theorem v_slices_Concat_sbyte_byte {y0 : List (List Int)} {r : List Int} (h : slices_Concat_sbyte_byte y0 = some r) : AVal Tryd.prog [] 15 [(e_sl 1 (e_sl 1 e_u8)) y0] ((e_sl 1 e_u8) r) := by
  refine aval_of (c := ⟨T_slices_Concat_sbyte_byte, [], 36, [], []⟩) Tryd.func15 (by kernel_rfl) rfl rfl rfl T_slices_Concat_sbyte_byte_ok (eqsOk_of (by kernel_rfl)) Tryd_mixed rfl fun P hP _ => ?_
  unfold slices_Concat_sbyte_byte at h
  conv => cbv
  refine den_cut (r := r) (fun j1 : Int => ⟨[(0, .sl 1 (e_sl 1 e_u8) y0), (3, .int .i64 (.v j1))], [], []⟩) (slices_Concat_sbyte_byte_K1 y0) ?_ (fun j1 h => ?_)
  · conv => cbv
    refine den_loop (slices_Concat_sbyte_byte_L2 y0) h (fun a7 : Int × Int => ⟨[(0, .sl 1 (e_sl 1 e_u8) y0), (3, .int .i64 (.v a7.1)), (9, .sl 1 (e_sl 1 e_u8) y0), (10, .int .i64 (.len y0)), (11, .int .i64 (.v a7.2))], [], []⟩) ?_ (fun _ _ a7 x1 h hb1 hx1 => ?_)
    · intro j0 hj
      conv => cbv
      subst hj
      exact ⟨.same _, .int _ _ _ rfl, .same _, .same _, .int _ _ _ rfl, trivial⟩
    · unfold slices_Concat_sbyte_byte_L2 at h
      conv => cbv
      refine den_br h (fun _ h => ?_) (fun _ h => ?_)
      · conv => cbv
        refine den_elem h fun p8 _ h => ?_
        conv => cbv
        refine den_br h (fun _ h => ?_) (fun _ h => ?_)
        · conv => cbv
          exact den_none h
        · conv => cbv
          refine den_back h hb1 fun j0 hj => ?_
          conv => cbv
          subst hj
          exact ⟨.same _, .int _ _ _ rfl, .same _, .same _, .int _ _ _ rfl, trivial⟩
      · conv => cbv
        replace h := den_out h hx1
        refine den_join h fun j0 hj => ?_
        conv => cbv
        subst hj
        exact ⟨.same _, .int _ _ _ rfl, trivial⟩
  · unfold slices_Concat_sbyte_byte_K1 at h
    conv => cbv
    refine den_own [(24, 20000, true)] [] (fun _ => .osl 20000) [] (fun r => [(20000, .arr false 5 1 e_u8 r)]) [.nilsl, e_i64 j1] h (fun _ h => hP ▸ g_grow h) (fun _ => rfl) (.cons _ _ _ _ (.same _) (.cons _ _ _ _ (.same _) .nil)) rfl True.intro fun r2 _ h => ?_
    conv => cbv
    refine den_cut (r := r) (fun j3 : (List Int) => ⟨[(6, .osl 24)], [(24, .arr false 5 1 e_u8 j3)], []⟩) slices_Concat_sbyte_byte_K2 ?_ (fun j3 h => ?_)
    · conv => cbv
      refine den_loop (slices_Concat_sbyte_byte_L1 y0) h (fun a4 : Int × (List Int) => ⟨[(6, .osl 24), (25, .sl 1 (e_sl 1 e_u8) y0), (26, .int .i64 (.len y0)), (27, .int .i64 (.v a4.1))], [(24, .arr false 5 1 e_u8 a4.2)], []⟩) ?_ (fun _ _ a4 x1 h hb1 hx1 => ?_)
      · intro j0 hj
        conv => cbv
        subst hj
        exact ⟨⟨.arr _ _ _ _ _ _ rfl, trivial⟩, .same _, .same _, .same _, .int _ _ _ rfl, trivial⟩
      · unfold slices_Concat_sbyte_byte_L1 at h
        conv => cbv
        refine den_br h (fun _ h => ?_) (fun _ h => ?_)
        · conv => cbv
          refine den_elem h fun p5 _ h => ?_
          conv => cbv
          refine den_app_own e_u8 (xs := p5) h rfl (News.map rfl) fun l6 _ h => ?_
          conv => cbv
          refine den_back h hb1 fun j0 hj => ?_
          conv => cbv
          subst hj
          exact ⟨⟨.arr _ _ _ _ _ _ rfl, trivial⟩, .same _, .same _, .same _, .int _ _ _ rfl, trivial⟩
        · conv => cbv
          replace h := den_out h hx1
          refine den_join h fun j0 hj => ?_
          conv => cbv
          subst hj
          exact ⟨⟨.arr _ _ _ _ _ _ rfl, trivial⟩, .same _, trivial⟩
    · unfold slices_Concat_sbyte_byte_K2 at h
      conv => cbv
      cases h
      exact .same _
def T_blocks_Write : Tab := [(3, ⟨.int .i64, 1, 8, [.int .i64 (.lit 0)]⟩), (5, ⟨.int .u8, 1, 1, [.int .u8 (.lit 0)]⟩), (22, ⟨.slice 38, 1, 24, [.nilsl]⟩), (26, ⟨.slice 29, 1, 24, [.nilsl]⟩), (29, ⟨.slice 5, 1, 24, [.nilsl]⟩), (38, ⟨.struct [(0, 3), (1, 29)], 2, 32, [.int .i64 (.lit 0), .nilsl]⟩)]
theorem T_blocks_Write_ok : TabOk Tryd.prog T_blocks_Write := by
  have h : T_blocks_Write = tabOf Tryd.prog [3, 5, 22, 26, 29, 38] := by kernel_rfl
  rw [h]; exact tabOk_of (by kernel_rfl)
theorem v_blocks_Write {y0 : List blocks_Block} {r : (List Int) × Int} (h : blocks_Write y0 = some r) : AVal Tryd.prog [] 8 [(e_sl 2 e_blocks_Block) y0] (.tup [(e_sl 1 e_u8) r.1, e_i64 r.2]) := by
  refine aval_of (c := ⟨T_blocks_Write, [], 55, [], []⟩) Tryd.func8 (by kernel_rfl) rfl rfl rfl T_blocks_Write_ok (eqsOk_of (by kernel_rfl)) Tryd_mixed rfl fun P hP _ => ?_
  unfold blocks_Write at h
  conv => cbv
  refine den_br h (fun _ h => ?_) (fun _ h => ?_)
  · conv => cbv
    cases h
    exact .tup _ _ (.cons _ _ _ _ (.nil _ _ _ rfl) (.cons _ _ _ _ (.int _ _ _ rfl) .nil))
  · conv => cbv
    refine den_cut (r := r) (fun j1 : (List Int) => ⟨[(4, .sl 1 e_u8 j1)], [], []⟩) blocks_Write_K1 ?_ (fun j1 h => ?_)
    · conv => cbv
      refine den_loop (blocks_Write_L1 y0) h (fun a2 : (List Int) × Int => ⟨[(0, .sl 2 e_blocks_Block y0), (4, .sl 1 e_u8 a2.1), (11, .sl 2 e_blocks_Block y0), (12, .int .i64 (.len y0)), (13, .int .i64 (.v a2.2))], [], []⟩) ?_ (fun _ _ a2 x1 h hb1 hx1 => ?_)
      · intro j0 hj
        conv => cbv
        subst hj
        exact ⟨.same _, .nil _ _ _ rfl, .same _, .same _, .int _ _ _ rfl, trivial⟩
      · unfold blocks_Write_L1 at h
        conv => cbv
        refine den_br h (fun _ h => ?_) (fun _ h => ?_)
        · conv => cbv
          refine .mk ?_
          conv => cbv
          refine den_elem h fun p3 _ h => ?_
          conv => cbv
          refine .mk ?_
          conv => cbv
          refine den_br h (fun _ h => ?_) (fun _ h => ?_)
          · conv => cbv
            replace h := den_out h hx1
            cases h
            exact .tup _ _ (.cons _ _ _ _ (.nil _ _ _ rfl) (.cons _ _ _ _ (.int _ _ _ rfl) .nil))
          · conv => cbv
            refine den_br h (fun _ h => ?_) (fun _ h => ?_)
            · conv => cbv
              replace h := den_out h hx1
              cases h
              exact .tup _ _ (.cons _ _ _ _ (.nil _ _ _ rfl) (.cons _ _ _ _ (.int _ _ _ rfl) .nil))
            · conv => cbv
              refine den_cut (r := x1) (fun j4 : Int => ⟨[(0, .sl 2 e_blocks_Block y0), (4, .sl 1 e_u8 a2.1), (6, .ptr 6 0), (7, .int .i64 (.v j4)), (11, .sl 2 e_blocks_Block y0), (12, .int .i64 (.len y0)), (13, .int .i64 (.v a2.2))], [(6, .var [.int .i64 (.v p3.m_Type), .sl 1 e_u8 p3.Data])], []⟩) (blocks_Write_K2 a2 p3) ?_ (fun j4 h => ?_)
              · conv => cbv
                refine den_br h (fun _ h => ?_) (fun _ h => ?_)
                · conv => cbv
                  refine den_join h fun j0 hj => ?_
                  conv => cbv
                  subst hj
                  exact ⟨⟨.same _, trivial⟩, .same _, .same _, .same _, .int _ _ _ rfl, .same _, .same _, .same _, trivial⟩
                · conv => cbv
                  refine den_join h fun j0 hj => ?_
                  conv => cbv
                  subst hj
                  exact ⟨⟨.same _, trivial⟩, .same _, .same _, .same _, .int _ _ _ rfl, .same _, .same _, .same _, trivial⟩
              · unfold blocks_Write_K2 at h
                conv => cbv
                refine .mk (by kernel_rfl) ?_
                conv => cbv
                refine .mk ?_
                conv => cbv
                refine ⟨?_, ?_⟩
                · refine .data ?_
                  conv => cbv
                  refine den_call (e_sl 1 e_u8) [e_i64 (p3.Data.length : Int), e_i64 (3 : Int)] h (fun _ h => hP ▸ v_blocks_big h) (.cons _ _ _ _ (.int _ _ _ rfl) (.cons _ _ _ _ (.int _ _ _ rfl) .nil)) rfl rfl (fun _ => rfl) fun r5 _ h => ?_
                  conv => cbv
                  refine .data ?_
                  conv => cbv
                  refine .mk ?_
                  conv => cbv
                  refine den_call (e_sl 1 e_u8) [(e_sl 1 (e_sl 1 e_u8)) [a2.1, [(IntKind.u8.wrap j4)], r5, p3.Data]] h (fun _ h => hP ▸ v_slices_Concat_sbyte_byte h) (.cons _ _ _ _ (.sls (.cons _ _ _ _ (VEq.of_lepl (.cons _ _ _ _ (.same _) .nil) rfl) (.cons _ _ _ _ (VEq.of_lepl (.cons _ _ _ _ (.sls (.cons _ _ _ _ (VEq.of_lepl (.cons _ _ _ _ (.int _ _ _ rfl) .nil) rfl) .nil)) .nil) rfl) (.cons _ _ _ _ (VEq.of_lepl (.cons _ _ _ _ (.same _) .nil) rfl) (.cons _ _ _ _ (VEq.of_lepl (.cons _ _ _ _ (.same _) .nil) rfl) .nil))))) .nil) rfl rfl (fun _ => rfl) fun r6 _ h => ?_
                  conv => cbv
                  refine den_back h hb1 fun j0 hj => ?_
                  conv => cbv
                  subst hj
                  exact ⟨.same _, .sl _ _ _ _ rfl, .same _, .same _, .int _ _ _ rfl, trivial⟩
                · refine den_call (e_sl 1 e_u8) [e_i64 (p3.Data.length : Int), e_i64 (3 : Int)] h (fun _ h => hP ▸ v_blocks_big h) (.cons _ _ _ _ (.int _ _ _ rfl) (.cons _ _ _ _ (.int _ _ _ rfl) .nil)) rfl rfl (fun _ => rfl) fun r7 _ h => ?_
                  conv => cbv
                  refine .data ?_
                  conv => cbv
                  refine .data ?_
                  conv => cbv
                  refine .mk ?_
                  conv => cbv
                  refine den_call (e_sl 1 e_u8) [(e_sl 1 (e_sl 1 e_u8)) [a2.1, [(IntKind.u8.wrap j4)], r7, p3.Data]] h (fun _ h => hP ▸ v_slices_Concat_sbyte_byte h) (.cons _ _ _ _ (.sls (.cons _ _ _ _ (VEq.of_lepl (.cons _ _ _ _ (.same _) .nil) rfl) (.cons _ _ _ _ (VEq.of_lepl (.cons _ _ _ _ (.sls (.cons _ _ _ _ (VEq.of_lepl (.cons _ _ _ _ (.int _ _ _ rfl) .nil) rfl) .nil)) .nil) rfl) (.cons _ _ _ _ (VEq.of_lepl (.cons _ _ _ _ (.same _) .nil) rfl) (.cons _ _ _ _ (VEq.of_lepl (.cons _ _ _ _ (.same _) .nil) rfl) .nil))))) .nil) rfl rfl (fun _ => rfl) fun r8 _ h => ?_
                  conv => cbv
                  refine den_back h hb1 fun j0 hj => ?_
                  conv => cbv
                  subst hj
                  exact ⟨.same _, .sl _ _ _ _ rfl, .same _, .same _, .int _ _ _ rfl, trivial⟩
        · conv => cbv
          replace h := den_out h hx1
          refine den_join h fun j0 hj => ?_
          conv => cbv
          subst hj
          exact ⟨.sl _ _ _ _ rfl, trivial⟩
    · unfold blocks_Write_K1 at h
      conv => cbv
      cases h
      exact .tup _ _ (.cons _ _ _ _ (.same _) (.cons _ _ _ _ (.int _ _ _ rfl) .nil))
def T_blocks_number : Tab := [(3, ⟨.int .i64, 1, 8, [.int .i64 (.lit 0)]⟩), (5, ⟨.int .u8, 1, 1, [.int .u8 (.lit 0)]⟩), (29, ⟨.slice 5, 1, 24, [.nilsl]⟩)]
theorem T_blocks_number_ok : TabOk Tryd.prog T_blocks_number := by
  have h : T_blocks_number = tabOf Tryd.prog [3, 5, 29] := by kernel_rfl
  rw [h]; exact tabOk_of (by kernel_rfl)
theorem v_blocks_number {y0 : List Int} {r : Int} (h : blocks_number y0 = some r) : AVal Tryd.prog [] 22 [(e_sl 1 e_u8) y0] (e_i64 r) := by
  refine aval_of (c := ⟨T_blocks_number, [], 19, [], []⟩) Tryd.func22 (by kernel_rfl) rfl rfl rfl T_blocks_number_ok (eqsOk_of (by kernel_rfl)) Tryd_mixed rfl fun P hP _ => ?_
  unfold blocks_number at h
  conv => cbv
  refine den_cut (r := r) (fun j1 : Int => ⟨[(3, .int .i64 (.v j1))], [], []⟩) blocks_number_K1 ?_ (fun j1 h => ?_)
  · conv => cbv
    refine den_loop (blocks_number_L1 y0) h (fun a2 : Int × Int => ⟨[(3, .int .i64 (.v a2.1)), (6, .sl 1 e_u8 y0), (7, .int .i64 (.len y0)), (8, .int .i64 (.v a2.2))], [], []⟩) ?_ (fun _ _ a2 x1 h hb1 hx1 => ?_)
    · intro j0 hj
      conv => cbv
      subst hj
      exact ⟨.int _ _ _ rfl, .same _, .same _, .int _ _ _ rfl, trivial⟩
    · unfold blocks_number_L1 at h
      conv => cbv
      refine den_br h (fun _ h => ?_) (fun _ h => ?_)
      · conv => cbv
        refine den_elem h fun p3 _ h => ?_
        conv => cbv
        refine .mk ?_
        conv => cbv
        refine den_back h hb1 fun j0 hj => ?_
        conv => cbv
        subst hj
        exact ⟨.int _ _ _ rfl, .same _, .same _, .int _ _ _ rfl, trivial⟩
      · conv => cbv
        replace h := den_out h hx1
        refine den_join h fun j0 hj => ?_
        conv => cbv
        subst hj
        exact ⟨.int _ _ _ rfl, trivial⟩
  · unfold blocks_number_K1 at h
    conv => cbv
    cases h
    exact .same _
def T_blocks_order : Tab := [(3, ⟨.int .i64, 1, 8, [.int .i64 (.lit 0)]⟩), (42, ⟨.slice 46, 1, 24, [.nilsl]⟩), (46, ⟨.struct [(0, 3), (1, 3), (2, 3)], 3, 24, [.int .i64 (.lit 0), .int .i64 (.lit 0), .int .i64 (.lit 0)]⟩)]
theorem T_blocks_order_ok : TabOk Tryd.prog T_blocks_order := by
  have h : T_blocks_order = tabOf Tryd.prog [3, 42, 46] := by kernel_rfl
  rw [h]; exact tabOk_of (by kernel_rfl)
theorem v_blocks_order {y0 : List blocks_Point} {r : Int} (h : blocks_order y0 = some r) : AVal Tryd.prog [] 23 [(e_sl 3 e_blocks_Point) y0] (e_i64 r) := by
  refine aval_of (c := ⟨T_blocks_order, [], 47, [], []⟩) Tryd.func23 (by kernel_rfl) rfl rfl rfl T_blocks_order_ok (eqsOk_of (by kernel_rfl)) Tryd_mixed rfl fun P hP _ => ?_
  unfold blocks_order at h
  conv => cbv
  refine den_cut (r := r) (fun j1 : Unit => ⟨[], [], []⟩) blocks_order_K1 ?_ (fun j1 h => ?_)
  · conv => cbv
    refine den_loop (blocks_order_L1 y0) h (fun a2 : Int => ⟨[(0, .sl 3 e_blocks_Point y0), (3, .int .i64 (.v a2))], [], []⟩) ?_ (fun _ _ a2 x1 h hb1 hx1 => ?_)
    · intro j0 hj
      conv => cbv
      subst hj
      exact ⟨.same _, .int _ _ _ rfl, trivial⟩
    · unfold blocks_order_L1 at h
      conv => cbv
      refine den_br h (fun _ h => ?_) (fun _ h => ?_)
      · conv => cbv
        refine .mk (by kernel_rfl) ?_
        conv => cbv
        refine den_elem h fun p3 _ h => ?_
        conv => cbv
        refine .mk ?_
        conv => cbv
        refine .mk ?_
        conv => cbv
        refine den_br h (fun _ h => ?_) (fun _ h => ?_)
        · conv => cbv
          refine den_elem h fun p4 _ h => ?_
          conv => cbv
          refine den_elem h fun p5 _ h => ?_
          conv => cbv
          refine .mk ?_
          conv => cbv
          refine .mk ?_
          conv => cbv
          refine den_br h (fun _ h => ?_) (fun _ h => ?_)
          · conv => cbv
            refine .mk ?_
            conv => cbv
            refine .mk ?_
            conv => cbv
            replace h := den_out h hx1
            cases h
            exact .int _ _ _ rfl
          · conv => cbv
            refine den_elem h fun p6 _ h => ?_
            conv => cbv
            refine .mk ?_
            conv => cbv
            refine den_br h (fun _ h => ?_) (fun _ h => ?_)
            · conv => cbv
              refine den_elem h fun p7 _ h => ?_
              conv => cbv
              refine .mk ?_
              conv => cbv
              refine den_br h (fun _ h => ?_) (fun _ h => ?_)
              · conv => cbv
                replace h := den_out h hx1
                cases h
                exact .int _ _ _ rfl
              · conv => cbv
                refine den_back h hb1 fun j0 hj => ?_
                conv => cbv
                subst hj
                exact ⟨.same _, .int _ _ _ rfl, trivial⟩
            · conv => cbv
              refine .mk ?_
              conv => cbv
              refine den_back h hb1 fun j0 hj => ?_
              conv => cbv
              subst hj
              exact ⟨.same _, .int _ _ _ rfl, trivial⟩
        · conv => cbv
          refine .mk ?_
          conv => cbv
          refine .mk ?_
          conv => cbv
          refine den_elem h fun p8 _ h => ?_
          conv => cbv
          refine .mk ?_
          conv => cbv
          refine den_br h (fun _ h => ?_) (fun _ h => ?_)
          · conv => cbv
            refine den_elem h fun p9 _ h => ?_
            conv => cbv
            refine .mk ?_
            conv => cbv
            refine den_br h (fun _ h => ?_) (fun _ h => ?_)
            · conv => cbv
              replace h := den_out h hx1
              cases h
              exact .int _ _ _ rfl
            · conv => cbv
              refine den_back h hb1 fun j0 hj => ?_
              conv => cbv
              subst hj
              exact ⟨.same _, .int _ _ _ rfl, trivial⟩
          · conv => cbv
            refine .mk ?_
            conv => cbv
            refine den_back h hb1 fun j0 hj => ?_
            conv => cbv
            subst hj
            exact ⟨.same _, .int _ _ _ rfl, trivial⟩
      · conv => cbv
        replace h := den_out h hx1
        refine den_join h fun j0 hj => ?_
        conv => cbv
        subst hj
        exact trivial
  · unfold blocks_order_K1 at h
    conv => cbv
    cases h
    exact .int _ _ _ rfl
def T_blocks_Points : Tab := [(3, ⟨.int .i64, 1, 8, [.int .i64 (.lit 0)]⟩), (5, ⟨.int .u8, 1, 1, [.int .u8 (.lit 0)]⟩), (29, ⟨.slice 5, 1, 24, [.nilsl]⟩), (30, ⟨.int .i64, 1, 8, [.int .i64 (.lit 0)]⟩), (42, ⟨.slice 46, 1, 24, [.nilsl]⟩), (46, ⟨.struct [(0, 3), (1, 3), (2, 3)], 3, 24, [.int .i64 (.lit 0), .int .i64 (.lit 0), .int .i64 (.lit 0)]⟩)]
theorem T_blocks_Points_ok : TabOk Tryd.prog T_blocks_Points := by
  have h : T_blocks_Points = tabOf Tryd.prog [3, 5, 29, 30, 42, 46] := by kernel_rfl
  rw [h]; exact tabOk_of (by kernel_rfl)
theorem v_blocks_Points {y0 : List Int} {r : (List blocks_Point) × Int} (h : blocks_Points y0 = some r) : AVal Tryd.prog [] 14 [(e_sl 1 e_u8) y0] (.tup [(e_sl 3 e_blocks_Point) r.1, e_i64 r.2]) := by
  refine aval_of (c := ⟨T_blocks_Points, [], 43, [], []⟩) Tryd.func14 (by kernel_rfl) rfl rfl rfl T_blocks_Points_ok (eqsOk_of (by kernel_rfl)) Tryd_mixed rfl fun P hP _ => ?_
  unfold blocks_Points at h
  conv => cbv
  refine den_br h (fun _ h => ?_) (fun _ h => ?_)
  · conv => cbv
    cases h
    exact .tup _ _ (.cons _ _ _ _ (.nil _ _ _ rfl) (.cons _ _ _ _ (.int _ _ _ rfl) .nil))
  · conv => cbv
    refine den_cut (r := r) (fun j1 : (List blocks_Point) => ⟨[(2, .ptr 2 0), (3, .ptr 3 0), (4, .ptr 4 0)], [(2, .var [.nilsl]), (3, .var [.int .i64 (.lit 0)]), (4, .var [.osl 36]), (36, .arr false 46 3 e_blocks_Point j1)], []⟩) blocks_Points_K1 ?_ (fun j1 h => ?_)
    · conv => cbv
      refine den_own [] [] (fun _ => .fn 27 [] [.rptr [.sl 1 e_u8 y0], .rptr [.int .i64 (.v (18 : Int))]]) [] (fun _ => []) [(e_sl 1 e_u8) y0, e_i64 (18 : Int)] h (fun _ h => hP ▸ m_chunk h) (fun _ => rfl) (.cons _ _ _ _ (.same _) (.cons _ _ _ _ (.int _ _ _ rfl) .nil)) rfl True.intro fun r3 hsr3 h => ?_
      conv => cbv
      refine den_fold (step := blocks_Points_L1) (done := blocks_Points_K2) (ret := blocks_Points_K3) h (fun p4 => [.sl 1 e_u8 p4]) (fun a5 : (List blocks_Point) => ⟨[(2, .ptr 2 0), (3, .ptr 3 0), (4, .ptr 4 0)], [(2, .var [.nilsl]), (3, .var [.int .i64 (.lit 0)]), (4, .var [.osl 36]), (36, .arr false 46 3 e_blocks_Point a5)], []⟩) (fun b6 : (List blocks_Point) => ⟨[(2, .ptr 2 0), (3, .ptr 3 0), (4, .ptr 4 0)], [(2, .var [.nilsl]), (3, .var [.int .i64 (.lit 10)]), (4, .var [.osl 36]), (36, .arr false 46 3 e_blocks_Point b6)], []⟩) 27 [.rptr [.sl 1 e_u8 y0], .rptr [.int .i64 (.v (18 : Int))]] rfl rfl (hP ▸ seq_chunk _ hsr3) (fun _ => ⟨rfl, rfl⟩) ?_ (fun p4 a5 x1 h => ?_) (fun b6 h => ?_) (fun a5 h => ?_)
      · conv => cbv
        exact ⟨⟨.same _, .same _, .var _ _ (.cons _ _ _ _ (.own _ _ _ _ _ _ rfl rfl) .nil), .arr _ _ _ _ _ _ rfl, trivial⟩, .same _, .same _, .same _, trivial⟩
      · refine den_round _ [(2, 10002, false), (3, 10003, false), (4, 10004, false), (36, 10036, true)] _ [(10002, .var [.nilsl]), (10003, .var [.int .i64 (.lit 0)]), (10004, .var [.osl 10036]), (10036, .arr false 46 3 e_blocks_Point a5)] (fun a5 : (List blocks_Point) => [(10002, .var [.nilsl]), (10003, .var [.int .i64 (.lit 0)]), (10004, .var [.osl 10036]), (10036, .arr false 46 3 e_blocks_Point a5)]) (fun b6 : (List blocks_Point) => [(10002, .var [.nilsl]), (10003, .var [.int .i64 (.lit 10)]), (10004, .var [.osl 10036]), (10036, .arr false 46 3 e_blocks_Point b6)]) rfl rfl (LePl.refl _ _) (fun _ => rfl) (fun _ => rfl) rfl (by (conv => cbv); exact ⟨.same _, .same _, .same _, .same _, trivial⟩) ?_ (fun a5 => ?_) (fun b6 => ?_)
        · refine round_of (c := ⟨T_blocks_Points, [], 43, [10002, 10003, 10004], []⟩) rfl (hP ▸ T_blocks_Points_ok) (by rw [hP]; exact eqsOk_of (by kernel_rfl)) (by rw [hP]; exact Tryd_mixed) rfl rfl rfl rfl fun P hP2 _ => ?_
          have hP := hP2.trans hP
          unfold blocks_Points_L1 at h
          conv => cbv
          refine .mk (by kernel_rfl) ?_
          conv => cbv
          refine den_sub h fun l7 _ h => ?_
          conv => cbv
          refine den_sub h fun l8 _ h => ?_
          conv => cbv
          refine .mk ?_
          conv => cbv
          refine den_sub h fun l9 _ h => ?_
          conv => cbv
          refine ⟨?_, ?_⟩
          · refine den_call e_i64 [(e_sl 1 e_u8) l7] h (fun _ h => hP ▸ v_blocks_number h) (.cons _ _ _ _ (.same _) .nil) rfl rfl (fun _ => rfl) fun r10 _ h => ?_
            conv => cbv
            refine ⟨?_, ?_⟩
            · refine den_call e_i64 [(e_sl 1 e_u8) l8] h (fun _ h => hP ▸ v_blocks_number h) (.cons _ _ _ _ (.same _) .nil) rfl rfl (fun _ => rfl) fun r11 _ h => ?_
              conv => cbv
              refine ⟨?_, ?_⟩
              · refine den_call e_i64 [(e_sl 1 e_u8) l9] h (fun _ h => hP ▸ v_blocks_number h) (.cons _ _ _ _ (.same _) .nil) rfl rfl (fun _ => rfl) fun r12 _ h => ?_
                conv => cbv
                refine .mk ?_
                conv => cbv
                refine .mk ?_
                conv => cbv
                refine den_br h (fun _ h => ?_) (fun _ h => ?_)
                · conv => cbv
                  cases h
                  conv => cbv
                  refine .mk [(10002, 10002, false), (10003, 10003, false), (10004, 10004, false), (10036, 10036, false)] [] rfl rfl ?_ ?_
                  · conv => cbv
                    exact ⟨.same _, .same _, .same _, .arr _ _ _ _ _ _ rfl, trivial⟩
                  · conv => cbv
                    exact .cons _ _ _ _ (.same _) .nil
                · conv => cbv
                  refine .data ?_
                  conv => cbv
                  refine den_app_own e_blocks_Point (xs := [(⟨r10, r11, r12⟩ : blocks_Point)]) h rfl (News.sls (.cons _ _ _ _ (VEq.of_lepl (.cons _ _ _ _ (.int _ _ _ rfl) (.cons _ _ _ _ (.int _ _ _ rfl) (.cons _ _ _ _ (.int _ _ _ rfl) .nil))) rfl) .nil)) fun l13 _ h => ?_
                  conv => cbv
                  cases h
                  conv => cbv
                  refine .mk [(10002, 10002, false), (10003, 10003, false), (10004, 10004, false), (10036, 10036, false)] [] rfl rfl ?_ ?_
                  · conv => cbv
                    exact ⟨.same _, .same _, .same _, .arr _ _ _ _ _ _ rfl, trivial⟩
                  · conv => cbv
                    exact .cons _ _ _ _ (.same _) .nil
              · refine den_call e_i64 [(e_sl 1 e_u8) l9] h (fun _ h => hP ▸ v_blocks_number h) (.cons _ _ _ _ (.same _) .nil) rfl rfl (fun _ => rfl) fun r14 _ h => ?_
                conv => cbv
                refine .mk ?_
                conv => cbv
                refine .mk ?_
                conv => cbv
                refine den_br h (fun _ h => ?_) (fun _ h => ?_)
                · conv => cbv
                  cases h
                  conv => cbv
                  refine .mk [(10002, 10002, false), (10003, 10003, false), (10004, 10004, false), (10036, 10036, false)] [] rfl rfl ?_ ?_
                  · conv => cbv
                    exact ⟨.same _, .same _, .same _, .arr _ _ _ _ _ _ rfl, trivial⟩
                  · conv => cbv
                    exact .cons _ _ _ _ (.same _) .nil
                · conv => cbv
                  refine .data ?_
                  conv => cbv
                  refine den_app_own e_blocks_Point (xs := [(⟨r10, r11, r14⟩ : blocks_Point)]) h rfl (News.sls (.cons _ _ _ _ (VEq.of_lepl (.cons _ _ _ _ (.int _ _ _ rfl) (.cons _ _ _ _ (.int _ _ _ rfl) (.cons _ _ _ _ (.int _ _ _ rfl) .nil))) rfl) .nil)) fun l15 _ h => ?_
                  conv => cbv
                  cases h
                  conv => cbv
                  refine .mk [(10002, 10002, false), (10003, 10003, false), (10004, 10004, false), (10036, 10036, false)] [] rfl rfl ?_ ?_
                  · conv => cbv
                    exact ⟨.same _, .same _, .same _, .arr _ _ _ _ _ _ rfl, trivial⟩
                  · conv => cbv
                    exact .cons _ _ _ _ (.same _) .nil
            · refine den_call e_i64 [(e_sl 1 e_u8) l8] h (fun _ h => hP ▸ v_blocks_number h) (.cons _ _ _ _ (.same _) .nil) rfl rfl (fun _ => rfl) fun r16 _ h => ?_
              conv => cbv
              refine den_call e_i64 [(e_sl 1 e_u8) l9] h (fun _ h => hP ▸ v_blocks_number h) (.cons _ _ _ _ (.same _) .nil) rfl rfl (fun _ => rfl) fun r17 _ h => ?_
              conv => cbv
              refine .mk ?_
              conv => cbv
              refine .mk ?_
              conv => cbv
              refine den_br h (fun _ h => ?_) (fun _ h => ?_)
              · conv => cbv
                cases h
                conv => cbv
                refine .mk [(10002, 10002, false), (10003, 10003, false), (10004, 10004, false), (10036, 10036, false)] [] rfl rfl ?_ ?_
                · conv => cbv
                  exact ⟨.same _, .same _, .same _, .arr _ _ _ _ _ _ rfl, trivial⟩
                · conv => cbv
                  exact .cons _ _ _ _ (.same _) .nil
              · conv => cbv
                refine .data ?_
                conv => cbv
                refine den_app_own e_blocks_Point (xs := [(⟨r10, r16, r17⟩ : blocks_Point)]) h rfl (News.sls (.cons _ _ _ _ (VEq.of_lepl (.cons _ _ _ _ (.int _ _ _ rfl) (.cons _ _ _ _ (.int _ _ _ rfl) (.cons _ _ _ _ (.int _ _ _ rfl) .nil))) rfl) .nil)) fun l18 _ h => ?_
                conv => cbv
                cases h
                conv => cbv
                refine .mk [(10002, 10002, false), (10003, 10003, false), (10004, 10004, false), (10036, 10036, false)] [] rfl rfl ?_ ?_
                · conv => cbv
                  exact ⟨.same _, .same _, .same _, .arr _ _ _ _ _ _ rfl, trivial⟩
                · conv => cbv
                  exact .cons _ _ _ _ (.same _) .nil
          · refine den_call e_i64 [(e_sl 1 e_u8) l7] h (fun _ h => hP ▸ v_blocks_number h) (.cons _ _ _ _ (.same _) .nil) rfl rfl (fun _ => rfl) fun r19 _ h => ?_
            conv => cbv
            refine den_call e_i64 [(e_sl 1 e_u8) l8] h (fun _ h => hP ▸ v_blocks_number h) (.cons _ _ _ _ (.same _) .nil) rfl rfl (fun _ => rfl) fun r20 _ h => ?_
            conv => cbv
            refine den_call e_i64 [(e_sl 1 e_u8) l9] h (fun _ h => hP ▸ v_blocks_number h) (.cons _ _ _ _ (.same _) .nil) rfl rfl (fun _ => rfl) fun r21 _ h => ?_
            conv => cbv
            refine .mk ?_
            conv => cbv
            refine .mk ?_
            conv => cbv
            refine den_br h (fun _ h => ?_) (fun _ h => ?_)
            · conv => cbv
              cases h
              conv => cbv
              refine .mk [(10002, 10002, false), (10003, 10003, false), (10004, 10004, false), (10036, 10036, false)] [] rfl rfl ?_ ?_
              · conv => cbv
                exact ⟨.same _, .same _, .same _, .arr _ _ _ _ _ _ rfl, trivial⟩
              · conv => cbv
                exact .cons _ _ _ _ (.same _) .nil
            · conv => cbv
              refine .data ?_
              conv => cbv
              refine den_app_own e_blocks_Point (xs := [(⟨r19, r20, r21⟩ : blocks_Point)]) h rfl (News.sls (.cons _ _ _ _ (VEq.of_lepl (.cons _ _ _ _ (.int _ _ _ rfl) (.cons _ _ _ _ (.int _ _ _ rfl) (.cons _ _ _ _ (.int _ _ _ rfl) .nil))) rfl) .nil)) fun l22 _ h => ?_
              conv => cbv
              cases h
              conv => cbv
              refine .mk [(10002, 10002, false), (10003, 10003, false), (10004, 10004, false), (10036, 10036, false)] [] rfl rfl ?_ ?_
              · conv => cbv
                exact ⟨.same _, .same _, .same _, .arr _ _ _ _ _ _ rfl, trivial⟩
              · conv => cbv
                exact .cons _ _ _ _ (.same _) .nil
        · conv => cbv
          exact ⟨⟨.same _, .same _, .same _, .same _, trivial⟩, .same _, .same _, .same _, trivial⟩
        · conv => cbv
          exact ⟨⟨.same _, .same _, .same _, .same _, trivial⟩, .same _, .same _, .same _, trivial⟩
      · unfold blocks_Points_K3 at h
        conv => cbv
        cases h
        exact .tup _ _ (.cons _ _ _ _ (.nil _ _ _ rfl) (.cons _ _ _ _ (.int _ _ _ rfl) .nil))
      · unfold blocks_Points_K2 at h
        conv => cbv
        refine den_join h fun j0 hj => ?_
        conv => cbv
        subst hj
        exact ⟨⟨.same _, .same _, .same _, .arr _ _ _ _ _ _ rfl, trivial⟩, .same _, .same _, .same _, trivial⟩
    · unfold blocks_Points_K1 at h
      conv => cbv
      refine den_lend e_i64 [(e_sl 3 e_blocks_Point) j1] h (fun _ h => hP ▸ v_blocks_order h) (.cons _ _ _ _ (.same _) .nil) (fun _ => rfl) fun r2 _ h => ?_
      conv => cbv
      refine den_br h (fun _ h => ?_) (fun _ h => ?_)
      · conv => cbv
        cases h
        exact .tup _ _ (.cons _ _ _ _ (.nil _ _ _ rfl) (.cons _ _ _ _ (.same _) .nil))
      · conv => cbv
        cases h
        exact .tup _ _ (.cons _ _ _ _ (.same _) (.cons _ _ _ _ (.int _ _ _ rfl) .nil))
def T_jetsamlaw11_Bytes : Tab := [(5, ⟨.int .u8, 1, 1, [.int .u8 (.lit 0)]⟩), (29, ⟨.slice 5, 1, 24, [.nilsl]⟩)]
theorem T_jetsamlaw11_Bytes_ok : TabOk Tryd.prog T_jetsamlaw11_Bytes := by
  have h : T_jetsamlaw11_Bytes = tabOf Tryd.prog [5, 29] := by kernel_rfl
  rw [h]; exact tabOk_of (by kernel_rfl)
theorem v_jetsamlaw11_Bytes {y0 : List Int} {y1 : List Int} {r : Bool} (h : jetsamlaw11_Bytes y0 y1 = some r) : AVal Tryd.prog [] 10 [(e_sl 1 e_u8) y0, (e_sl 1 e_u8) y1] (e_bool r) := by
  refine aval_of (c := ⟨T_jetsamlaw11_Bytes, [], 26, [], []⟩) Tryd.func10 (by kernel_rfl) rfl rfl rfl T_jetsamlaw11_Bytes_ok (eqsOk_of (by kernel_rfl)) Tryd_mixed rfl fun P hP _ => ?_
  unfold jetsamlaw11_Bytes at h
  conv => cbv
  refine den_br h (fun _ h => ?_) (fun _ h => ?_)
  · conv => cbv
    cases h
    exact .bool _ _ rfl
  · conv => cbv
    refine den_cut (r := r) (fun j1 : Unit => ⟨[], [], []⟩) jetsamlaw11_Bytes_K1 ?_ (fun j1 h => ?_)
    · conv => cbv
      refine den_loop (jetsamlaw11_Bytes_L1 y0 y1) h (fun a2 : Int => ⟨[(0, .sl 1 e_u8 y0), (1, .sl 1 e_u8 y1), (5, .int .i64 (.v a2))], [], []⟩) ?_ (fun _ _ a2 x1 h hb1 hx1 => ?_)
      · intro j0 hj
        conv => cbv
        subst hj
        exact ⟨.same _, .same _, .int _ _ _ rfl, trivial⟩
      · unfold jetsamlaw11_Bytes_L1 at h
        conv => cbv
        refine den_br h (fun _ h => ?_) (fun _ h => ?_)
        · conv => cbv
          refine .mk (by kernel_rfl) ?_
          conv => cbv
          refine den_elem h fun p3 _ h => ?_
          conv => cbv
          refine .mk ?_
          conv => cbv
          refine den_elem h fun p4 _ h => ?_
          conv => cbv
          refine den_br h (fun _ h => ?_) (fun _ h => ?_)
          · conv => cbv
            replace h := den_out h hx1
            cases h
            exact .bool _ _ rfl
          · conv => cbv
            refine den_back h hb1 fun j0 hj => ?_
            conv => cbv
            subst hj
            exact ⟨.same _, .same _, .int _ _ _ rfl, trivial⟩
        · conv => cbv
          replace h := den_out h hx1
          refine den_join h fun j0 hj => ?_
          conv => cbv
          subst hj
          exact trivial
    · unfold jetsamlaw11_Bytes_K1 at h
      conv => cbv
      cases h
      exact .bool _ _ rfl
def T_jetsamlaw12_awake : Tab := [(3, ⟨.int .i64, 1, 8, [.int .i64 (.lit 0)]⟩), (5, ⟨.int .u8, 1, 1, [.int .u8 (.lit 0)]⟩), (22, ⟨.slice 38, 1, 24, [.nilsl]⟩), (29, ⟨.slice 5, 1, 24, [.nilsl]⟩), (38, ⟨.struct [(0, 3), (1, 29)], 2, 32, [.int .i64 (.lit 0), .nilsl]⟩), (42, ⟨.slice 46, 1, 24, [.nilsl]⟩), (46, ⟨.struct [(0, 3), (1, 3), (2, 3)], 3, 24, [.int .i64 (.lit 0), .int .i64 (.lit 0), .int .i64 (.lit 0)]⟩)]
theorem T_jetsamlaw12_awake_ok : TabOk Tryd.prog T_jetsamlaw12_awake := by
  have h : T_jetsamlaw12_awake = tabOf Tryd.prog [3, 5, 22, 29, 38, 42, 46] := by kernel_rfl
  rw [h]; exact tabOk_of (by kernel_rfl)
theorem v_jetsamlaw12_awake {r : Bool} (h : jetsamlaw12_awake = some r) : AVal Tryd.prog [] 6 [] (e_bool r) := by
  refine aval_of (c := ⟨T_jetsamlaw12_awake, [], 68, [], [(46, [.i, .i, .i])]⟩) Tryd.func6 (by kernel_rfl) rfl rfl rfl T_jetsamlaw12_awake_ok (eqsOk_of (by kernel_rfl)) Tryd_mixed rfl fun P hP _ => ?_
  unfold jetsamlaw12_awake at h
  conv => cbv
  refine den_call (fun r : blocks_Block × Int => .tup [e_blocks_Block r.1, e_i64 r.2]) [e_i64 (2 : Int)] h (fun _ h => hP ▸ v_blocks_Zeros h) (.cons _ _ _ _ (.int _ _ _ rfl) .nil) rfl rfl (fun _ => rfl) fun r1 _ h => ?_
  conv => cbv
  refine .mk ?_
  conv => cbv
  refine .data ?_
  conv => cbv
  refine .mk ?_
  conv => cbv
  refine den_call (fun r : (List Int) × Int => .tup [(e_sl 1 e_u8) r.1, e_i64 r.2]) [(e_sl 2 e_blocks_Block) [r1.1]] h (fun _ h => hP ▸ v_blocks_Write h) (.cons _ _ _ _ (.sls (.cons _ _ _ _ (VEq.of_lepl (.cons _ _ _ _ (.same _) (.cons _ _ _ _ (.same _) .nil)) rfl) .nil)) .nil) rfl rfl (fun _ => rfl) fun r2 _ h => ?_
  conv => cbv
  refine den_cut (r := r) (fun j3 : (List Int) => ⟨[(2, .int .i64 (.v r1.2)), (3, .sl 1 e_u8 r2.1), (4, .int .i64 (.v r2.2)), (5, .osl 26)], [(26, .arr false 5 1 e_u8 j3)], []⟩) (jetsamlaw12_awake_K1 r1 r2) ?_ (fun j3 h => ?_)
  · conv => cbv
    refine den_loop (jetsamlaw12_awake_L2 r1 r2) h (fun a10 : Int × (List Int) => ⟨[(2, .int .i64 (.v r1.2)), (3, .sl 1 e_u8 r2.1), (4, .int .i64 (.v r2.2)), (5, .osl 26), (6, .int .i64 (.v a10.1))], [(26, .arr false 5 1 e_u8 a10.2)], []⟩) ?_ (fun _ _ a10 x1 h hb1 hx1 => ?_)
    · intro j0 hj
      conv => cbv
      subst hj
      exact ⟨⟨.arr _ _ _ _ _ _ rfl, trivial⟩, .same _, .same _, .same _, .own _ _ _ _ _ _ rfl rfl, .int _ _ _ rfl, trivial⟩
    · unfold jetsamlaw12_awake_L2 at h
      conv => cbv
      refine den_br h (fun _ h => ?_) (fun _ h => ?_)
      · conv => cbv
        refine .data ?_
        conv => cbv
        refine den_app_own e_u8 (xs := [(0 : Int)]) h rfl (News.sls (.cons _ _ _ _ (VEq.of_lepl (.cons _ _ _ _ (.int _ _ _ rfl) .nil) rfl) .nil)) fun l11 _ h => ?_
        conv => cbv
        refine den_back h hb1 fun j0 hj => ?_
        conv => cbv
        subst hj
        exact ⟨⟨.arr _ _ _ _ _ _ rfl, trivial⟩, .same _, .same _, .same _, .same _, .int _ _ _ rfl, trivial⟩
      · conv => cbv
        replace h := den_out h hx1
        refine den_join h fun j0 hj => ?_
        conv => cbv
        subst hj
        exact ⟨⟨.arr _ _ _ _ _ _ rfl, trivial⟩, .same _, .same _, .same _, .same _, trivial⟩
  · unfold jetsamlaw12_awake_K1 at h
    conv => cbv
    refine den_cut (r := r) (fun j4 : (List Int) => ⟨[(2, .int .i64 (.v r1.2)), (3, .sl 1 e_u8 r2.1), (4, .int .i64 (.v r2.2)), (5, .osl 26)], [(26, .arr false 5 1 e_u8 j4)], []⟩) (jetsamlaw12_awake_K2 r1 r2) ?_ (fun j4 h => ?_)
    · conv => cbv
      refine den_loop (jetsamlaw12_awake_L1 r1 r2) h (fun a8 : Int × (List Int) => ⟨[(2, .int .i64 (.v r1.2)), (3, .sl 1 e_u8 r2.1), (4, .int .i64 (.v r2.2)), (5, .osl 26), (7, .int .i64 (.v a8.1))], [(26, .arr false 5 1 e_u8 a8.2)], []⟩) ?_ (fun _ _ a8 x1 h hb1 hx1 => ?_)
      · intro j0 hj
        conv => cbv
        subst hj
        exact ⟨⟨.arr _ _ _ _ _ _ rfl, trivial⟩, .same _, .same _, .same _, .same _, .int _ _ _ rfl, trivial⟩
      · unfold jetsamlaw12_awake_L1 at h
        conv => cbv
        refine den_br h (fun _ h => ?_) (fun _ h => ?_)
        · conv => cbv
          refine den_chk h fun h => ?_
          conv => cbv
          refine den_chk h fun h => ?_
          conv => cbv
          refine den_estore (f := e_u8) (255 : Int) h (fun _ => CEqL.of_lepl (.cons _ _ _ _ (.int _ _ _ rfl) .nil) rfl) fun l9 _ h => ?_
          conv => cbv
          refine den_back h hb1 fun j0 hj => ?_
          conv => cbv
          subst hj
          exact ⟨⟨.arr _ _ _ _ _ _ rfl, trivial⟩, .same _, .same _, .same _, .same _, .int _ _ _ rfl, trivial⟩
        · conv => cbv
          replace h := den_out h hx1
          refine den_join h fun j0 hj => ?_
          conv => cbv
          subst hj
          exact ⟨⟨.arr _ _ _ _ _ _ rfl, trivial⟩, .same _, .same _, .same _, .same _, trivial⟩
    · unfold jetsamlaw12_awake_K2 at h
      conv => cbv
      refine .mk ?_
      conv => cbv
      refine den_call (fun r : (List blocks_Point) × Int => .tup [(e_sl 3 e_blocks_Point) r.1, e_i64 r.2]) [(e_sl 1 e_u8) j4] h (fun _ h => hP ▸ v_blocks_Points h) (.cons _ _ _ _ (.same _) .nil) rfl rfl (fun _ => rfl) fun r5 _ h => ?_
      conv => cbv
      refine .mk ?_
      conv => cbv
      refine .mk ?_
      conv => cbv
      refine den_br h (fun _ h => ?_) (fun _ h => ?_)
      · conv => cbv
        refine .data ?_
        conv => cbv
        refine den_call e_bool [(e_sl 1 e_u8) r2.1, (e_sl 1 e_u8) [(129 : Int), (0 : Int), (0 : Int), (2 : Int), (0 : Int), (0 : Int)]] h (fun _ h => hP ▸ v_jetsamlaw11_Bytes h) (.cons _ _ _ _ (.same _) (.cons _ _ _ _ (.sls (.cons _ _ _ _ (VEq.of_lepl (.cons _ _ _ _ (.int _ _ _ rfl) .nil) rfl) (.cons _ _ _ _ (VEq.of_lepl (.cons _ _ _ _ (.int _ _ _ rfl) .nil) rfl) (.cons _ _ _ _ (VEq.of_lepl (.cons _ _ _ _ (.int _ _ _ rfl) .nil) rfl) (.cons _ _ _ _ (VEq.of_lepl (.cons _ _ _ _ (.int _ _ _ rfl) .nil) rfl) (.cons _ _ _ _ (VEq.of_lepl (.cons _ _ _ _ (.int _ _ _ rfl) .nil) rfl) (.cons _ _ _ _ (VEq.of_lepl (.cons _ _ _ _ (.int _ _ _ rfl) .nil) rfl) .nil))))))) .nil)) rfl rfl (fun _ => rfl) fun r6 _ h => ?_
        conv => cbv
        refine .mk ?_
        conv => cbv
        refine .mk ?_
        conv => cbv
        refine den_br h (fun _ h => ?_) (fun _ h => ?_)
        · conv => cbv
          refine den_elem h fun p7 _ h => ?_
          conv => cbv
          refine .mk ?_
          conv => cbv
          cases h
          exact .bool _ _ rfl
        · conv => cbv
          refine .mk ?_
          conv => cbv
          cases h
          exact .bool _ _ rfl
      · conv => cbv
        refine .mk ?_
        conv => cbv
        refine .mk ?_
        conv => cbv
        refine .mk ?_
        conv => cbv
        cases h
        exact .bool _ _ rfl
def T_jetsamlaw12_Plain : Tab := [(3, ⟨.int .i64, 1, 8, [.int .i64 (.lit 0)]⟩), (22, ⟨.slice 38, 1, 24, [.nilsl]⟩), (25, ⟨.slice 3, 1, 24, [.nilsl]⟩), (26, ⟨.slice 29, 1, 24, [.nilsl]⟩), (29, ⟨.slice 5, 1, 24, [.nilsl]⟩), (38, ⟨.struct [(0, 3), (1, 29)], 2, 32, [.int .i64 (.lit 0), .nilsl]⟩)]
theorem T_jetsamlaw12_Plain_ok : TabOk Tryd.prog T_jetsamlaw12_Plain := by
  have h : T_jetsamlaw12_Plain = tabOf Tryd.prog [3, 22, 25, 26, 29, 38] := by kernel_rfl
  rw [h]; exact tabOk_of (by kernel_rfl)
theorem v_jetsamlaw12_Plain {y0 : List blocks_Block} {r : (List Int) × (List (List Int))} (h : jetsamlaw12_Plain y0 = some r) : AVal Tryd.prog [] 7 [(e_sl 2 e_blocks_Block) y0] (.tup [(e_sl 1 e_i64) r.1, (e_sl 1 (e_sl 1 e_u8)) r.2]) := by
  refine aval_of (c := ⟨T_jetsamlaw12_Plain, [], 31, [], []⟩) Tryd.func7 (by kernel_rfl) rfl rfl rfl T_jetsamlaw12_Plain_ok (eqsOk_of (by kernel_rfl)) Tryd_mixed rfl fun P hP _ => ?_
  unfold jetsamlaw12_Plain at h
  conv => cbv
  refine den_cut (r := r) (fun j1 : (List Int) × (List (List Int)) => ⟨[(4, .osl 20), (5, .osl 28)], [(20, .arr false 3 1 e_i64 j1.1), (28, .arr false 29 1 (e_sl 1 e_u8) j1.2)], []⟩) jetsamlaw12_Plain_K1 ?_ (fun j1 h => ?_)
  · conv => cbv
    refine den_loop (jetsamlaw12_Plain_L1 y0) h (fun a2 : Int × (List Int) × (List (List Int)) => ⟨[(0, .sl 2 e_blocks_Block y0), (4, .osl 20), (5, .osl 28), (6, .int .i64 (.v a2.1))], [(20, .arr false 3 1 e_i64 a2.2.1), (28, .arr false 29 1 (e_sl 1 e_u8) a2.2.2)], []⟩) ?_ (fun _ _ a2 x1 h hb1 hx1 => ?_)
    · intro j0 hj
      conv => cbv
      subst hj
      exact ⟨⟨.arr _ _ _ _ _ _ rfl, .arr _ _ _ _ _ _ rfl, trivial⟩, .same _, .own _ _ _ _ _ _ rfl rfl, .own _ _ _ _ _ _ rfl rfl, .int _ _ _ rfl, trivial⟩
    · unfold jetsamlaw12_Plain_L1 at h
      conv => cbv
      refine den_br h (fun _ h => ?_) (fun _ h => ?_)
      · conv => cbv
        refine .mk ?_
        conv => cbv
        refine den_elem h fun p3 _ h => ?_
        conv => cbv
        refine .data ?_
        conv => cbv
        refine den_app_own e_i64 (xs := [p3.m_Type]) h rfl (News.sls (.cons _ _ _ _ (VEq.of_lepl (.cons _ _ _ _ (.same _) .nil) rfl) .nil)) fun l4 _ h => ?_
        conv => cbv
        refine .mk ?_
        conv => cbv
        refine den_elem h fun p5 _ h => ?_
        conv => cbv
        refine .data ?_
        conv => cbv
        refine den_app_own (e_sl 1 e_u8) (xs := [p5.Data]) h rfl (News.sls (.cons _ _ _ _ (VEq.of_lepl (.cons _ _ _ _ (.same _) .nil) rfl) .nil)) fun l6 _ h => ?_
        conv => cbv
        refine den_back h hb1 fun j0 hj => ?_
        conv => cbv
        subst hj
        exact ⟨⟨.arr _ _ _ _ _ _ rfl, .arr _ _ _ _ _ _ rfl, trivial⟩, .same _, .same _, .same _, .int _ _ _ rfl, trivial⟩
      · conv => cbv
        replace h := den_out h hx1
        refine den_join h fun j0 hj => ?_
        conv => cbv
        subst hj
        exact ⟨⟨.arr _ _ _ _ _ _ rfl, .arr _ _ _ _ _ _ rfl, trivial⟩, .same _, .same _, trivial⟩
  · unfold jetsamlaw12_Plain_K1 at h
    conv => cbv
    cases h
    exact .same _
def T_jetsamref12_Big : Tab := [(3, ⟨.int .i64, 1, 8, [.int .i64 (.lit 0)]⟩), (5, ⟨.int .u8, 1, 1, [.int .u8 (.lit 0)]⟩), (29, ⟨.slice 5, 1, 24, [.nilsl]⟩)]
theorem T_jetsamref12_Big_ok : TabOk Tryd.prog T_jetsamref12_Big := by
  have h : T_jetsamref12_Big = tabOf Tryd.prog [3, 5, 29] := by kernel_rfl
  rw [h]; exact tabOk_of (by kernel_rfl)
theorem v_jetsamref12_Big {y0 : Int} {y1 : Int} {r : List Int} (h : jetsamref12_Big y0 y1 = some r) : AVal Tryd.prog [] 17 [e_i64 y0, e_i64 y1] ((e_sl 1 e_u8) r) := by
  refine aval_of (c := ⟨T_jetsamref12_Big, [], 23, [], []⟩) Tryd.func17 (by kernel_rfl) rfl rfl rfl T_jetsamref12_Big_ok (eqsOk_of (by kernel_rfl)) Tryd_mixed rfl fun P hP _ => ?_
  unfold jetsamref12_Big at h
  conv => cbv
  refine den_cut (r := r) (fun j1 : (List Int) => ⟨[(5, .osl 21)], [(21, .arr false 5 1 e_u8 j1)], []⟩) jetsamref12_Big_K1 ?_ (fun j1 h => ?_)
  · conv => cbv
    refine den_loop (jetsamref12_Big_L1 y0) h (fun a2 : Int × (List Int) => ⟨[(0, .int .i64 (.v y0)), (5, .osl 21), (6, .int .i64 (.v a2.1))], [(21, .arr false 5 1 e_u8 a2.2)], []⟩) ?_ (fun _ _ a2 x1 h hb1 hx1 => ?_)
    · intro j0 hj
      conv => cbv
      subst hj
      exact ⟨⟨.arr _ _ _ _ _ _ rfl, trivial⟩, .same _, .own _ _ _ _ _ _ rfl rfl, .int _ _ _ rfl, trivial⟩
    · unfold jetsamref12_Big_L1 at h
      conv => cbv
      refine den_br h (fun _ h => ?_) (fun _ h => ?_)
      · conv => cbv
        refine .mk ?_
        conv => cbv
        refine den_chk h fun h => ?_
        conv => cbv
        refine .data ?_
        conv => cbv
        refine den_app_own e_u8 (xs := [(IntKind.u8.wrap ((shD .shr .i64 y0 (W (8 * a2.1))).tmod 256))]) h rfl (News.sls (.cons _ _ _ _ (VEq.of_lepl (.cons _ _ _ _ (.int _ _ _ rfl) .nil) rfl) .nil)) fun l3 _ h => ?_
        conv => cbv
        refine den_back h hb1 fun j0 hj => ?_
        conv => cbv
        subst hj
        exact ⟨⟨.arr _ _ _ _ _ _ rfl, trivial⟩, .same _, .same _, .int _ _ _ rfl, trivial⟩
      · conv => cbv
        replace h := den_out h hx1
        refine den_join h fun j0 hj => ?_
        conv => cbv
        subst hj
        exact ⟨⟨.arr _ _ _ _ _ _ rfl, trivial⟩, .same _, trivial⟩
  · unfold jetsamref12_Big_K1 at h
    conv => cbv
    cases h
    exact .same _
def T_jetsamref12_Write : Tab := [(3, ⟨.int .i64, 1, 8, [.int .i64 (.lit 0)]⟩), (5, ⟨.int .u8, 1, 1, [.int .u8 (.lit 0)]⟩), (25, ⟨.slice 3, 1, 24, [.nilsl]⟩), (26, ⟨.slice 29, 1, 24, [.nilsl]⟩), (29, ⟨.slice 5, 1, 24, [.nilsl]⟩)]
theorem T_jetsamref12_Write_ok : TabOk Tryd.prog T_jetsamref12_Write := by
  have h : T_jetsamref12_Write = tabOf Tryd.prog [3, 5, 25, 26, 29] := by kernel_rfl
  rw [h]; exact tabOk_of (by kernel_rfl)
theorem v_jetsamref12_Write {y0 : List Int} {y1 : List (List Int)} {r : (List Int) × Int} (h : jetsamref12_Write y0 y1 = some r) : AVal Tryd.prog [] 9 [(e_sl 1 e_i64) y0, (e_sl 1 (e_sl 1 e_u8)) y1] (.tup [(e_sl 1 e_u8) r.1, e_i64 r.2]) := by
  refine aval_of (c := ⟨T_jetsamref12_Write, [], 67, [], []⟩) Tryd.func9 (by kernel_rfl) rfl rfl rfl T_jetsamref12_Write_ok (eqsOk_of (by kernel_rfl)) Tryd_mixed rfl fun P hP _ => ?_
  unfold jetsamref12_Write at h
  conv => cbv
  refine den_br h (fun _ h => ?_) (fun _ h => ?_)
  · conv => cbv
    cases h
    exact .tup _ _ (.cons _ _ _ _ (.nil _ _ _ rfl) (.cons _ _ _ _ (.int _ _ _ rfl) .nil))
  · conv => cbv
    refine den_cut (r := r) (fun j1 : (List Int) => ⟨[(6, .osl 51)], [(51, .arr false 5 1 e_u8 j1)], []⟩) jetsamref12_Write_K1 ?_ (fun j1 h => ?_)
    · conv => cbv
      refine den_loop (jetsamref12_Write_L1 y0 y1) h (fun a2 : Int × (List Int) => ⟨[(0, .sl 1 e_i64 y0), (1, .sl 1 (e_sl 1 e_u8) y1), (6, .osl 51), (7, .int .i64 (.v a2.1))], [(51, .arr false 5 1 e_u8 a2.2)], []⟩) ?_ (fun _ _ a2 x1 h hb1 hx1 => ?_)
      · intro j0 hj
        conv => cbv
        subst hj
        exact ⟨⟨.arr _ _ _ _ _ _ rfl, trivial⟩, .same _, .same _, .own _ _ _ _ _ _ rfl rfl, .int _ _ _ rfl, trivial⟩
      · unfold jetsamref12_Write_L1 at h
        conv => cbv
        refine den_br h (fun _ h => ?_) (fun _ h => ?_)
        · conv => cbv
          refine .mk ?_
          conv => cbv
          refine den_elem h fun p3 _ h => ?_
          conv => cbv
          refine .mk ?_
          conv => cbv
          refine den_br h (fun _ h => ?_) (fun _ h => ?_)
          · conv => cbv
            replace h := den_out h hx1
            cases h
            exact .tup _ _ (.cons _ _ _ _ (.nil _ _ _ rfl) (.cons _ _ _ _ (.int _ _ _ rfl) .nil))
          · conv => cbv
            refine den_elem h fun p4 _ h => ?_
            conv => cbv
            refine den_br h (fun _ h => ?_) (fun _ h => ?_)
            · conv => cbv
              replace h := den_out h hx1
              cases h
              exact .tup _ _ (.cons _ _ _ _ (.nil _ _ _ rfl) (.cons _ _ _ _ (.int _ _ _ rfl) .nil))
            · conv => cbv
              refine .mk ?_
              conv => cbv
              refine den_elem h fun p5 _ h => ?_
              conv => cbv
              refine den_br h (fun _ h => ?_) (fun _ h => ?_)
              · conv => cbv
                replace h := den_out h hx1
                cases h
                exact .tup _ _ (.cons _ _ _ _ (.nil _ _ _ rfl) (.cons _ _ _ _ (.int _ _ _ rfl) .nil))
              · conv => cbv
                refine den_elem h fun p6 _ h => ?_
                conv => cbv
                refine den_cut (r := x1) (fun j7 : Int => ⟨[(0, .sl 1 e_i64 y0), (1, .sl 1 (e_sl 1 e_u8) y1), (6, .osl 51), (7, .int .i64 (.v a2.1)), (8, .int .i64 (.v j7)), (26, .rptr [.int .i64 (.v p4)]), (27, .int .i64 (.v p4)), (28, .bool (.cmp .gtr (.v p4) (.lit 126)))], [(51, .arr false 5 1 e_u8 a2.2)], []⟩) (jetsamref12_Write_K2 y1 a2) ?_ (fun j7 h => ?_)
                · conv => cbv
                  refine den_br h (fun _ h => ?_) (fun _ h => ?_)
                  · conv => cbv
                    refine den_join h fun j0 hj => ?_
                    conv => cbv
                    subst hj
                    exact ⟨⟨.same _, trivial⟩, .same _, .same _, .same _, .same _, .int _ _ _ rfl, .same _, .same _, .same _, trivial⟩
                  · conv => cbv
                    refine den_join h fun j0 hj => ?_
                    conv => cbv
                    subst hj
                    exact ⟨⟨.same _, trivial⟩, .same _, .same _, .same _, .same _, .int _ _ _ rfl, .same _, .same _, .same _, trivial⟩
                · unfold jetsamref12_Write_K2 at h
                  conv => cbv
                  refine .mk ?_
                  conv => cbv
                  refine .data ?_
                  conv => cbv
                  refine den_app_own e_u8 (xs := [(IntKind.u8.wrap j7)]) h rfl (News.sls (.cons _ _ _ _ (VEq.of_lepl (.cons _ _ _ _ (.int _ _ _ rfl) .nil) rfl) .nil)) fun l8 _ h => ?_
                  conv => cbv
                  refine .mk ?_
                  conv => cbv
                  refine den_elem h fun p9 _ h => ?_
                  conv => cbv
                  refine den_call (e_sl 1 e_u8) [e_i64 (p9.length : Int), e_i64 (3 : Int)] h (fun _ h => hP ▸ v_jetsamref12_Big h) (.cons _ _ _ _ (.int _ _ _ rfl) (.cons _ _ _ _ (.int _ _ _ rfl) .nil)) rfl rfl (fun _ => rfl) fun r10 _ h => ?_
                  conv => cbv
                  refine den_app_own e_u8 (xs := r10) h rfl (News.map rfl) fun l11 _ h => ?_
                  conv => cbv
                  refine .mk ?_
                  conv => cbv
                  refine den_elem h fun p12 _ h => ?_
                  conv => cbv
                  refine den_app_own e_u8 (xs := p12) h rfl (News.map rfl) fun l13 _ h => ?_
                  conv => cbv
                  refine den_back h hb1 fun j0 hj => ?_
                  conv => cbv
                  subst hj
                  exact ⟨⟨.arr _ _ _ _ _ _ rfl, trivial⟩, .same _, .same _, .same _, .int _ _ _ rfl, trivial⟩
        · conv => cbv
          replace h := den_out h hx1
          refine den_join h fun j0 hj => ?_
          conv => cbv
          subst hj
          exact ⟨⟨.arr _ _ _ _ _ _ rfl, trivial⟩, .same _, trivial⟩
    · unfold jetsamref12_Write_K1 at h
      conv => cbv
      cases h
      exact .tup _ _ (.cons _ _ _ _ (.same _) (.cons _ _ _ _ (.int _ _ _ rfl) .nil))
def T_blocks_many : Tab := [(3, ⟨.int .i64, 1, 8, [.int .i64 (.lit 0)]⟩), (22, ⟨.slice 38, 1, 24, [.nilsl]⟩), (38, ⟨.struct [(0, 3), (1, 29)], 2, 32, [.int .i64 (.lit 0), .nilsl]⟩)]
theorem T_blocks_many_ok : TabOk Tryd.prog T_blocks_many := by
  have h : T_blocks_many = tabOf Tryd.prog [3, 22, 38] := by kernel_rfl
  rw [h]; exact tabOk_of (by kernel_rfl)
theorem v_blocks_many {y0 : List blocks_Block} {y1 : Int} {r : Int} (h : blocks_many y0 y1 = some r) : AVal Tryd.prog [] 18 [(e_sl 2 e_blocks_Block) y0, e_i64 y1] (e_i64 r) := by
  refine aval_of (c := ⟨T_blocks_many, [], 22, [], []⟩) Tryd.func18 (by kernel_rfl) rfl rfl rfl T_blocks_many_ok (eqsOk_of (by kernel_rfl)) Tryd_mixed rfl fun P hP _ => ?_
  unfold blocks_many at h
  conv => cbv
  refine den_cut (r := r) (fun j1 : Int => ⟨[(5, .int .i64 (.v j1))], [], []⟩) blocks_many_K1 ?_ (fun j1 h => ?_)
  · conv => cbv
    refine den_loop (blocks_many_L1 y0 y1) h (fun a2 : Int × Int => ⟨[(1, .int .i64 (.v y1)), (5, .int .i64 (.v a2.1)), (8, .sl 2 e_blocks_Block y0), (9, .int .i64 (.len y0)), (10, .int .i64 (.v a2.2))], [], []⟩) ?_ (fun _ _ a2 x1 h hb1 hx1 => ?_)
    · intro j0 hj
      conv => cbv
      subst hj
      exact ⟨.same _, .int _ _ _ rfl, .same _, .same _, .int _ _ _ rfl, trivial⟩
    · unfold blocks_many_L1 at h
      conv => cbv
      refine den_br h (fun _ h => ?_) (fun _ h => ?_)
      · conv => cbv
        refine den_cut (r := x1) (fun j3 : Int => ⟨[(1, .int .i64 (.v y1)), (5, .int .i64 (.v j3)), (8, .sl 2 e_blocks_Block y0), (9, .int .i64 (.len y0)), (10, .int .i64 (.v a2.2))], [], []⟩) (blocks_many_K2 a2) ?_ (fun j3 h => ?_)
        · conv => cbv
          refine den_elem h fun p4 _ h => ?_
          conv => cbv
          refine den_br h (fun _ h => ?_) (fun _ h => ?_)
          · conv => cbv
            refine den_join h fun j0 hj => ?_
            conv => cbv
            subst hj
            exact ⟨.same _, .int _ _ _ rfl, .same _, .same _, .same _, trivial⟩
          · conv => cbv
            refine den_join h fun j0 hj => ?_
            conv => cbv
            subst hj
            exact ⟨.same _, .int _ _ _ rfl, .same _, .same _, .same _, trivial⟩
        · unfold blocks_many_K2 at h
          conv => cbv
          refine den_back h hb1 fun j0 hj => ?_
          conv => cbv
          subst hj
          exact ⟨.same _, .int _ _ _ rfl, .same _, .same _, .int _ _ _ rfl, trivial⟩
      · conv => cbv
        replace h := den_out h hx1
        refine den_join h fun j0 hj => ?_
        conv => cbv
        subst hj
        exact ⟨.int _ _ _ rfl, trivial⟩
  · unfold blocks_many_K1 at h
    conv => cbv
    cases h
    exact .same _
def T_slices_IndexFunc_sblocks_Block_blocks_Block : Tab := [(22, ⟨.slice 38, 1, 24, [.nilsl]⟩), (38, ⟨.struct [(0, 3), (1, 29)], 2, 32, [.int .i64 (.lit 0), .nilsl]⟩)]
theorem T_slices_IndexFunc_sblocks_Block_blocks_Block_ok : TabOk Tryd.prog T_slices_IndexFunc_sblocks_Block_blocks_Block := by
  have h : T_slices_IndexFunc_sblocks_Block_blocks_Block = tabOf Tryd.prog [22, 38] := by kernel_rfl
  rw [h]; exact tabOk_of (by kernel_rfl)
theorem v_slices_IndexFunc_sblocks_Block_blocks_Block {y0 : List blocks_Block} {g1 : blocks_Block → Option Bool} (fid1 : Nat) (hg1 : ∀ z0 r, g1 z0 = some r → AVal Tryd.prog [] fid1 [e_blocks_Block z0] (e_bool r)) {r : Int} (h : slices_IndexFunc_sblocks_Block_blocks_Block y0 g1 = some r) : AVal Tryd.prog [] 25 [(e_sl 2 e_blocks_Block) y0, (.fn fid1 [] [])] (e_i64 r) := by
  refine aval_of (c := ⟨T_slices_IndexFunc_sblocks_Block_blocks_Block, [], 19, [], []⟩) Tryd.func25 (by kernel_rfl) rfl rfl rfl T_slices_IndexFunc_sblocks_Block_blocks_Block_ok (eqsOk_of (by kernel_rfl)) Tryd_mixed rfl fun P hP _ => ?_
  unfold slices_IndexFunc_sblocks_Block_blocks_Block at h
  conv => cbv
  refine den_cut (r := r) (fun j1 : Unit => ⟨[], [], []⟩) slices_IndexFunc_sblocks_Block_blocks_Block_K1 ?_ (fun j1 h => ?_)
  · conv => cbv
    refine den_loop (slices_IndexFunc_sblocks_Block_blocks_Block_L1 y0 g1) h (fun a2 : Int => ⟨[(0, .sl 2 e_blocks_Block y0), (1, .fn fid1 [] []), (7, .int .i64 (.len y0)), (8, .int .i64 (.v a2))], [], []⟩) ?_ (fun _ _ a2 x1 h hb1 hx1 => ?_)
    · intro j0 hj
      conv => cbv
      subst hj
      exact ⟨.same _, .same _, .same _, .int _ _ _ rfl, trivial⟩
    · unfold slices_IndexFunc_sblocks_Block_blocks_Block_L1 at h
      conv => cbv
      refine den_br h (fun _ h => ?_) (fun _ h => ?_)
      · conv => cbv
        refine .mk ?_
        conv => cbv
        refine den_elem h fun p3 _ h => ?_
        conv => cbv
        refine den_call e_bool [e_blocks_Block p3] h (fun _ h => hP ▸ hg1 _ _ h) (.cons _ _ _ _ (.same _) .nil) rfl rfl (fun _ => rfl) fun r4 _ h => ?_
        conv => cbv
        refine den_br h (fun _ h => ?_) (fun _ h => ?_)
        · conv => cbv
          replace h := den_out h hx1
          cases h
          exact .same _
        · conv => cbv
          refine den_back h hb1 fun j0 hj => ?_
          conv => cbv
          subst hj
          exact ⟨.same _, .same _, .same _, .int _ _ _ rfl, trivial⟩
      · conv => cbv
        replace h := den_out h hx1
        refine den_join h fun j0 hj => ?_
        conv => cbv
        subst hj
        exact trivial
  · unfold slices_IndexFunc_sblocks_Block_blocks_Block_K1 at h
    conv => cbv
    cases h
    exact .int _ _ _ rfl
def T_slices_ContainsFunc_sblocks_Block_blocks_Block : Tab := []
theorem T_slices_ContainsFunc_sblocks_Block_blocks_Block_ok : TabOk Tryd.prog T_slices_ContainsFunc_sblocks_Block_blocks_Block := by
  have h : T_slices_ContainsFunc_sblocks_Block_blocks_Block = tabOf Tryd.prog [] := by kernel_rfl
  rw [h]; exact tabOk_of (by kernel_rfl)
theorem v_slices_ContainsFunc_sblocks_Block_blocks_Block {y0 : List blocks_Block} {g1 : blocks_Block → Option Bool} (fid1 : Nat) (hg1 : ∀ z0 r, g1 z0 = some r → AVal Tryd.prog [] fid1 [e_blocks_Block z0] (e_bool r)) {r : Bool} (h : slices_ContainsFunc_sblocks_Block_blocks_Block y0 g1 = some r) : AVal Tryd.prog [] 19 [(e_sl 2 e_blocks_Block) y0, (.fn fid1 [] [])] (e_bool r) := by
  refine aval_of (c := ⟨T_slices_ContainsFunc_sblocks_Block_blocks_Block, [], 9, [], []⟩) Tryd.func19 (by kernel_rfl) rfl rfl rfl T_slices_ContainsFunc_sblocks_Block_blocks_Block_ok (eqsOk_of (by kernel_rfl)) Tryd_mixed rfl fun P hP _ => ?_
  unfold slices_ContainsFunc_sblocks_Block_blocks_Block at h
  conv => cbv
  refine den_call e_i64 [(e_sl 2 e_blocks_Block) y0, .fn fid1 [] []] h (fun _ h => hP ▸ v_slices_IndexFunc_sblocks_Block_blocks_Block _ hg1 h) (.cons _ _ _ _ (.same _) (.cons _ _ _ _ (.same _) .nil)) rfl rfl (fun _ => rfl) fun r1 _ h => ?_
  conv => cbv
  cases h
  exact .bool _ _ rfl
def T_bytes_trimRightByte : Tab := [(5, ⟨.int .u8, 1, 1, [.int .u8 (.lit 0)]⟩), (29, ⟨.slice 5, 1, 24, [.nilsl]⟩)]
theorem T_bytes_trimRightByte_ok : TabOk Tryd.prog T_bytes_trimRightByte := by
  have h : T_bytes_trimRightByte = tabOf Tryd.prog [5, 29] := by kernel_rfl
  rw [h]; exact tabOk_of (by kernel_rfl)
theorem v_bytes_trimRightByte {y0 : List Int} {y1 : Int} {r : List Int} (h : bytes_trimRightByte y0 y1 = some r) : AVal Tryd.prog [] 29 [(e_sl 1 e_u8) y0, e_u8 y1] ((e_sl 1 e_u8) r) := by
  refine aval_of (c := ⟨T_bytes_trimRightByte, [], 24, [], []⟩) Tryd.func29 (by kernel_rfl) rfl rfl rfl T_bytes_trimRightByte_ok (eqsOk_of (by kernel_rfl)) Tryd_mixed rfl fun P hP _ => ?_
  unfold bytes_trimRightByte at h
  conv => cbv
  refine den_cut (r := r) (fun j1 : (List Int) => ⟨[(0, .sl 1 e_u8 j1)], [], []⟩) bytes_trimRightByte_K1 ?_ (fun j1 h => ?_)
  · conv => cbv
    refine den_loop (bytes_trimRightByte_L1 y1) h (fun a2 : (List Int) => ⟨[(0, .sl 1 e_u8 a2), (1, .int .u8 (.v y1))], [], []⟩) ?_ (fun _ _ a2 x1 h hb1 hx1 => ?_)
    · intro j0 hj
      conv => cbv
      subst hj
      exact ⟨.sl _ _ _ _ rfl, .same _, trivial⟩
    · unfold bytes_trimRightByte_L1 at h
      conv => cbv
      refine .mk ?_
      conv => cbv
      refine .mk ?_
      conv => cbv
      refine den_br h (fun _ h => ?_) (fun _ h => ?_)
      · conv => cbv
        refine den_elem h fun p3 _ h => ?_
        conv => cbv
        refine den_br h (fun _ h => ?_) (fun _ h => ?_)
        · conv => cbv
          refine .mk ?_
          conv => cbv
          refine den_sub h fun l4 _ h => ?_
          conv => cbv
          refine den_back h hb1 fun j0 hj => ?_
          conv => cbv
          subst hj
          exact ⟨.sl _ _ _ _ rfl, .same _, trivial⟩
        · conv => cbv
          replace h := den_out h hx1
          refine den_join h fun j0 hj => ?_
          conv => cbv
          subst hj
          exact ⟨.sl _ _ _ _ rfl, trivial⟩
      · conv => cbv
        replace h := den_out h hx1
        refine den_join h fun j0 hj => ?_
        conv => cbv
        subst hj
        exact ⟨.sl _ _ _ _ rfl, trivial⟩
  · unfold bytes_trimRightByte_K1 at h
    conv => cbv
    cases h
    exact .same _
def T_bytes_trimLeftByte : Tab := [(5, ⟨.int .u8, 1, 1, [.int .u8 (.lit 0)]⟩), (29, ⟨.slice 5, 1, 24, [.nilsl]⟩)]
theorem T_bytes_trimLeftByte_ok : TabOk Tryd.prog T_bytes_trimLeftByte := by
  have h : T_bytes_trimLeftByte = tabOf Tryd.prog [5, 29] := by kernel_rfl
  rw [h]; exact tabOk_of (by kernel_rfl)
theorem v_bytes_trimLeftByte {y0 : List Int} {y1 : Int} {r : List Int} (h : bytes_trimLeftByte y0 y1 = some r) : AVal Tryd.prog [] 28 [(e_sl 1 e_u8) y0, e_u8 y1] ((e_sl 1 e_u8) r) := by
  refine aval_of (c := ⟨T_bytes_trimLeftByte, [], 21, [], []⟩) Tryd.func28 (by kernel_rfl) rfl rfl rfl T_bytes_trimLeftByte_ok (eqsOk_of (by kernel_rfl)) Tryd_mixed rfl fun P hP _ => ?_
  unfold bytes_trimLeftByte at h
  conv => cbv
  refine den_cut (r := r) (fun j1 : (List Int) => ⟨[(0, .sl 1 e_u8 j1)], [], []⟩) bytes_trimLeftByte_K1 ?_ (fun j1 h => ?_)
  · conv => cbv
    refine den_loop (bytes_trimLeftByte_L1 y1) h (fun a2 : (List Int) => ⟨[(0, .sl 1 e_u8 a2), (1, .int .u8 (.v y1))], [], []⟩) ?_ (fun _ _ a2 x1 h hb1 hx1 => ?_)
    · intro j0 hj
      conv => cbv
      subst hj
      exact ⟨.sl _ _ _ _ rfl, .same _, trivial⟩
    · unfold bytes_trimLeftByte_L1 at h
      conv => cbv
      refine .mk ?_
      conv => cbv
      refine den_br h (fun _ h => ?_) (fun _ h => ?_)
      · conv => cbv
        refine den_elem h fun p3 _ h => ?_
        conv => cbv
        refine den_br h (fun _ h => ?_) (fun _ h => ?_)
        · conv => cbv
          refine den_sub h fun l4 _ h => ?_
          conv => cbv
          refine den_back h hb1 fun j0 hj => ?_
          conv => cbv
          subst hj
          exact ⟨.sl _ _ _ _ rfl, .same _, trivial⟩
        · conv => cbv
          replace h := den_out h hx1
          refine den_join h fun j0 hj => ?_
          conv => cbv
          subst hj
          exact ⟨.sl _ _ _ _ rfl, trivial⟩
      · conv => cbv
        replace h := den_out h hx1
        refine den_join h fun j0 hj => ?_
        conv => cbv
        subst hj
        exact ⟨.sl _ _ _ _ rfl, trivial⟩
  · unfold bytes_trimLeftByte_K1 at h
    conv => cbv
    refine den_br h (fun _ h => ?_) (fun _ h => ?_)
    · conv => cbv
      cases h
      exact .nil _ _ _ rfl
    · conv => cbv
      cases h
      exact .same _
def T_bytes_Trim : Tab := [(9, ⟨.str, 1, 16, [.str (.lit [])]⟩), (29, ⟨.slice 5, 1, 24, [.nilsl]⟩)]
theorem T_bytes_Trim_ok : TabOk Tryd.prog T_bytes_Trim := by
  have h : T_bytes_Trim = tabOf Tryd.prog [9, 29] := by kernel_rfl
  rw [h]; exact tabOk_of (by kernel_rfl)
theorem v_bytes_Trim {y0 : List Int} {y1 : List UInt8} {r : List Int} (h : bytes_Trim y0 y1 = some r) : AVal Tryd.prog [] 26 [(e_sl 1 e_u8) y0, e_str y1] ((e_sl 1 e_u8) r) := by
  refine aval_of (c := ⟨T_bytes_Trim, [], 42, [], []⟩) Tryd.func26 (by kernel_rfl) rfl rfl rfl T_bytes_Trim_ok (eqsOk_of (by kernel_rfl)) Tryd_mixed rfl fun P hP _ => ?_
  unfold bytes_Trim at h
  conv => cbv
  refine den_br h (fun _ h => ?_) (fun _ h => ?_)
  · conv => cbv
    cases h
    exact .nil _ _ _ rfl
  · conv => cbv
    refine den_br h (fun _ h => ?_) (fun _ h => ?_)
    · conv => cbv
      cases h
      exact .same _
    · conv => cbv
      refine .mk ?_
      conv => cbv
      refine den_br h (fun _ h => ?_) (fun _ h => ?_)
      · conv => cbv
        refine den_elemS h fun b1 _ h => ?_
        conv => cbv
        refine den_br h (fun _ h => ?_) (fun _ h => ?_)
        · conv => cbv
          refine .mk (by kernel_rfl) ?_
          conv => cbv
          refine den_elemS h fun b2 _ h => ?_
          conv => cbv
          refine den_elemS h fun b3 _ h => ?_
          conv => cbv
          refine .mk ?_
          conv => cbv
          refine den_call (e_sl 1 e_u8) [(e_sl 1 e_u8) y0, e_u8 (b2.toNat : Int)] h (fun _ h => hP ▸ v_bytes_trimRightByte h) (.cons _ _ _ _ (.same _) (.cons _ _ _ _ (.int _ _ _ rfl) .nil)) rfl rfl (fun _ => rfl) fun r4 _ h => ?_
          conv => cbv
          refine den_call (e_sl 1 e_u8) [(e_sl 1 e_u8) r4, e_u8 (b3.toNat : Int)] h (fun _ h => hP ▸ v_bytes_trimLeftByte h) (.cons _ _ _ _ (.same _) (.cons _ _ _ _ (.int _ _ _ rfl) .nil)) rfl rfl (fun _ => rfl) fun r5 _ h => ?_
          conv => cbv
          cases h
          exact .same _
        · conv => cbv
          exact den_none h
      · conv => cbv
        exact den_none h
def T_blocks_bad : Tab := [(3, ⟨.int .i64, 1, 8, [.int .i64 (.lit 0)]⟩), (29, ⟨.slice 5, 1, 24, [.nilsl]⟩), (38, ⟨.struct [(0, 3), (1, 29)], 2, 32, [.int .i64 (.lit 0), .nilsl]⟩)]
theorem T_blocks_bad_ok : TabOk Tryd.prog T_blocks_bad := by
  have h : T_blocks_bad = tabOf Tryd.prog [3, 29, 38] := by kernel_rfl
  rw [h]; exact tabOk_of (by kernel_rfl)
theorem v_blocks_bad {y0 : blocks_Block} {r : Bool} (h : blocks_bad y0 = some r) : AVal Tryd.prog [] 20 [e_blocks_Block y0] (e_bool r) := by
  refine aval_of (c := ⟨T_blocks_bad, [], 25, [], []⟩) Tryd.func20 (by kernel_rfl) rfl rfl rfl T_blocks_bad_ok (eqsOk_of (by kernel_rfl)) Tryd_mixed rfl fun P hP _ => ?_
  unfold blocks_bad at h
  conv => cbv
  refine den_br h (fun _ h => ?_) (fun _ h => ?_)
  · conv => cbv
    refine .mk ?_
    conv => cbv
    refine den_call (e_sl 1 e_u8) [(e_sl 1 e_u8) y0.Data, e_str [0]] h (fun _ h => hP ▸ v_bytes_Trim h) (.cons _ _ _ _ (.same _) (.cons _ _ _ _ (.str _ _ rfl) .nil)) rfl rfl (fun _ => rfl) fun r1 _ h => ?_
    conv => cbv
    cases h
    exact .bool _ _ rfl
  · conv => cbv
    refine den_br h (fun _ h => ?_) (fun _ h => ?_)
    · conv => cbv
      cases h
      exact .bool _ _ rfl
    · conv => cbv
      refine den_br h (fun _ h => ?_) (fun _ h => ?_)
      · conv => cbv
        refine .mk ?_
        conv => cbv
        cases h
        exact .bool _ _ rfl
      · conv => cbv
        cases h
        exact .bool _ _ rfl
def T_blocks_Order : Tab := [(3, ⟨.int .i64, 1, 8, [.int .i64 (.lit 0)]⟩), (22, ⟨.slice 38, 1, 24, [.nilsl]⟩), (29, ⟨.slice 5, 1, 24, [.nilsl]⟩), (38, ⟨.struct [(0, 3), (1, 29)], 2, 32, [.int .i64 (.lit 0), .nilsl]⟩)]
theorem T_blocks_Order_ok : TabOk Tryd.prog T_blocks_Order := by
  have h : T_blocks_Order = tabOf Tryd.prog [3, 22, 29, 38] := by kernel_rfl
  rw [h]; exact tabOk_of (by kernel_rfl)
theorem v_blocks_Order {y0 : List blocks_Block} {r : Int} (h : blocks_Order y0 = some r) : AVal Tryd.prog [] 11 [(e_sl 2 e_blocks_Block) y0] (e_i64 r) := by
  refine aval_of (c := ⟨T_blocks_Order, [], 38, [], []⟩) Tryd.func11 (by kernel_rfl) rfl rfl rfl T_blocks_Order_ok (eqsOk_of (by kernel_rfl)) Tryd_mixed rfl fun P hP _ => ?_
  unfold blocks_Order at h
  conv => cbv
  refine .mk ?_
  conv => cbv
  refine den_br h (fun _ h => ?_) (fun _ h => ?_)
  · conv => cbv
    cases h
    exact .int _ _ _ rfl
  · conv => cbv
    refine den_elem h fun p1 _ h => ?_
    conv => cbv
    refine den_br h (fun _ h => ?_) (fun _ h => ?_)
    · conv => cbv
      cases h
      exact .int _ _ _ rfl
    · conv => cbv
      refine den_call e_i64 [(e_sl 2 e_blocks_Block) y0, e_i64 (0 : Int)] h (fun _ h => hP ▸ v_blocks_many h) (.cons _ _ _ _ (.same _) (.cons _ _ _ _ (.int _ _ _ rfl) .nil)) rfl rfl (fun _ => rfl) fun r2 _ h => ?_
      conv => cbv
      refine .mk ?_
      conv => cbv
      refine den_br h (fun _ h => ?_) (fun _ h => ?_)
      · conv => cbv
        refine .mk ?_
        conv => cbv
        cases h
        exact .int _ _ _ rfl
      · conv => cbv
        refine den_call e_i64 [(e_sl 2 e_blocks_Block) y0, e_i64 (3 : Int)] h (fun _ h => hP ▸ v_blocks_many h) (.cons _ _ _ _ (.same _) (.cons _ _ _ _ (.int _ _ _ rfl) .nil)) rfl rfl (fun _ => rfl) fun r3 _ h => ?_
        conv => cbv
        refine .mk ?_
        conv => cbv
        refine den_br h (fun _ h => ?_) (fun _ h => ?_)
        · conv => cbv
          cases h
          exact .int _ _ _ rfl
        · conv => cbv
          refine den_call e_i64 [(e_sl 2 e_blocks_Block) y0, e_i64 (4 : Int)] h (fun _ h => hP ▸ v_blocks_many h) (.cons _ _ _ _ (.same _) (.cons _ _ _ _ (.int _ _ _ rfl) .nil)) rfl rfl (fun _ => rfl) fun r4 _ h => ?_
          conv => cbv
          refine den_br h (fun _ h => ?_) (fun _ h => ?_)
          · conv => cbv
            cases h
            exact .int _ _ _ rfl
          · conv => cbv
            refine .mk ?_
            conv => cbv
            refine den_elem h fun p5 _ h => ?_
            conv => cbv
            refine den_br h (fun _ h => ?_) (fun _ h => ?_)
            · conv => cbv
              cases h
              exact .int _ _ _ rfl
            · conv => cbv
              refine den_call e_bool [(e_sl 2 e_blocks_Block) y0, .fn 20 [] []] h (fun _ h => hP ▸ v_slices_ContainsFunc_sblocks_Block_blocks_Block _ (fun _ _ h => v_blocks_bad h) h) (.cons _ _ _ _ (.same _) (.cons _ _ _ _ (.same _) .nil)) rfl rfl (fun _ => rfl) fun r6 _ h => ?_
              conv => cbv
              refine den_br h (fun _ h => ?_) (fun _ h => ?_)
              · conv => cbv
                cases h
                exact .int _ _ _ rfl
              · conv => cbv
                cases h
                exact .int _ _ _ rfl
def T_jetsamref12_Order : Tab := [(3, ⟨.int .i64, 1, 8, [.int .i64 (.lit 0)]⟩), (5, ⟨.int .u8, 1, 1, [.int .u8 (.lit 0)]⟩), (25, ⟨.slice 3, 1, 24, [.nilsl]⟩), (26, ⟨.slice 29, 1, 24, [.nilsl]⟩), (29, ⟨.slice 5, 1, 24, [.nilsl]⟩)]
theorem T_jetsamref12_Order_ok : TabOk Tryd.prog T_jetsamref12_Order := by
  have h : T_jetsamref12_Order = tabOf Tryd.prog [3, 5, 25, 26, 29] := by kernel_rfl
  rw [h]; exact tabOk_of (by kernel_rfl)
theorem v_jetsamref12_Order {y0 : List Int} {y1 : List (List Int)} {r : Int} (h : jetsamref12_Order y0 y1 = some r) : AVal Tryd.prog [] 12 [(e_sl 1 e_i64) y0, (e_sl 1 (e_sl 1 e_u8)) y1] (e_i64 r) := by
  refine aval_of (c := ⟨T_jetsamref12_Order, [], 123, [], []⟩) Tryd.func12 (by kernel_rfl) rfl rfl rfl T_jetsamref12_Order_ok (eqsOk_of (by kernel_rfl)) Tryd_mixed rfl fun P hP _ => ?_
  unfold jetsamref12_Order at h
  conv => cbv
  refine .mk ?_
  conv => cbv
  refine den_br h (fun _ h => ?_) (fun _ h => ?_)
  · conv => cbv
    cases h
    exact .int _ _ _ rfl
  · conv => cbv
    refine den_elem h fun p1 _ h => ?_
    conv => cbv
    refine den_br h (fun _ h => ?_) (fun _ h => ?_)
    · conv => cbv
      cases h
      exact .int _ _ _ rfl
    · conv => cbv
      refine den_cut (r := r) (fun j2 : Unit => ⟨[(0, .sl 1 e_i64 y0), (1, .sl 1 (e_sl 1 e_u8) y1)], [], []⟩) (jetsamref12_Order_K1 y0 y1) ?_ (fun j2 h => ?_)
      · conv => cbv
        refine den_loop (jetsamref12_Order_L6 y0 y1) h (fun a33 : Int => ⟨[(0, .sl 1 e_i64 y0), (1, .sl 1 (e_sl 1 e_u8) y1), (5, .int .i64 (.v a33))], [], []⟩) ?_ (fun _ _ a33 x1 h hb1 hx1 => ?_)
        · intro j0 hj
          conv => cbv
          subst hj
          exact ⟨.same _, .same _, .int _ _ _ rfl, trivial⟩
        · unfold jetsamref12_Order_L6 at h
          conv => cbv
          refine den_br h (fun _ h => ?_) (fun _ h => ?_)
          · conv => cbv
            refine den_cut (r := x1) (fun j34 : Unit => ⟨[(0, .sl 1 e_i64 y0), (1, .sl 1 (e_sl 1 e_u8) y1), (5, .int .i64 (.v a33))], [], []⟩) (jetsamref12_Order_K4 a33) ?_ (fun j34 h => ?_)
            · conv => cbv
              refine den_loop (jetsamref12_Order_L7 y0 a33) h (fun a35 : Int => ⟨[(0, .sl 1 e_i64 y0), (1, .sl 1 (e_sl 1 e_u8) y1), (5, .int .i64 (.v a33)), (6, .int .i64 (.v a35))], [], []⟩) ?_ (fun _ _ a35 x2 h hb2 hx2 => ?_)
              · intro j0 hj
                conv => cbv
                subst hj
                exact ⟨.same _, .same _, .same _, .int _ _ _ rfl, trivial⟩
              · unfold jetsamref12_Order_L7 at h
                conv => cbv
                refine den_br h (fun _ h => ?_) (fun _ h => ?_)
                · conv => cbv
                  refine .mk (by kernel_rfl) ?_
                  conv => cbv
                  refine den_elem h fun p36 _ h => ?_
                  conv => cbv
                  refine .mk ?_
                  conv => cbv
                  refine den_elem h fun p37 _ h => ?_
                  conv => cbv
                  refine .mk ?_
                  conv => cbv
                  refine den_br h (fun _ h => ?_) (fun _ h => ?_)
                  · conv => cbv
                    refine den_elem h fun p38 _ h => ?_
                    conv => cbv
                    refine .mk ?_
                    conv => cbv
                    refine den_br h (fun _ h => ?_) (fun _ h => ?_)
                    · conv => cbv
                      refine .mk ?_
                      conv => cbv
                      refine .mk ?_
                      conv => cbv
                      replace h := den_out h hx2
                      replace h := den_out h hx1
                      cases h
                      exact .int _ _ _ rfl
                    · conv => cbv
                      refine den_elem h fun p39 _ h => ?_
                      conv => cbv
                      refine .mk ?_
                      conv => cbv
                      refine den_br h (fun _ h => ?_) (fun _ h => ?_)
                      · conv => cbv
                        refine .mk ?_
                        conv => cbv
                        replace h := den_out h hx2
                        replace h := den_out h hx1
                        cases h
                        exact .int _ _ _ rfl
                      · conv => cbv
                        refine den_elem h fun p40 _ h => ?_
                        conv => cbv
                        refine .mk ?_
                        conv => cbv
                        refine den_br h (fun _ h => ?_) (fun _ h => ?_)
                        · conv => cbv
                          replace h := den_out h hx2
                          replace h := den_out h hx1
                          cases h
                          exact .int _ _ _ rfl
                        · conv => cbv
                          refine den_back h hb2 fun j0 hj => ?_
                          conv => cbv
                          subst hj
                          exact ⟨.same _, .same _, .same _, .int _ _ _ rfl, trivial⟩
                  · conv => cbv
                    refine .mk ?_
                    conv => cbv
                    refine .mk ?_
                    conv => cbv
                    refine .mk ?_
                    conv => cbv
                    refine den_back h hb2 fun j0 hj => ?_
                    conv => cbv
                    subst hj
                    exact ⟨.same _, .same _, .same _, .int _ _ _ rfl, trivial⟩
                · conv => cbv
                  replace h := den_out h hx2
                  refine den_join h fun j0 hj => ?_
                  conv => cbv
                  subst hj
                  exact ⟨.same _, .same _, .same _, trivial⟩
            · unfold jetsamref12_Order_K4 at h
              conv => cbv
              refine den_back h hb1 fun j0 hj => ?_
              conv => cbv
              subst hj
              exact ⟨.same _, .same _, .int _ _ _ rfl, trivial⟩
          · conv => cbv
            replace h := den_out h hx1
            refine den_join h fun j0 hj => ?_
            conv => cbv
            subst hj
            exact ⟨.same _, .same _, trivial⟩
      · unfold jetsamref12_Order_K1 at h
        conv => cbv
        refine den_elem h fun p3 _ h => ?_
        conv => cbv
        refine den_br h (fun _ h => ?_) (fun _ h => ?_)
        · conv => cbv
          cases h
          exact .int _ _ _ rfl
        · conv => cbv
          refine den_cut (r := r) (fun j4 : Unit => ⟨[], [], []⟩) jetsamref12_Order_K2 ?_ (fun j4 h => ?_)
          · conv => cbv
            refine den_loop (jetsamref12_Order_L1 y0 y1) h (fun a5 : Int => ⟨[(0, .sl 1 e_i64 y0), (1, .sl 1 (e_sl 1 e_u8) y1), (7, .int .i64 (.v a5))], [], []⟩) ?_ (fun _ _ a5 x1 h hb1 hx1 => ?_)
            · intro j0 hj
              conv => cbv
              subst hj
              exact ⟨.same _, .same _, .int _ _ _ rfl, trivial⟩
            · unfold jetsamref12_Order_L1 at h
              conv => cbv
              refine den_br h (fun _ h => ?_) (fun _ h => ?_)
              · conv => cbv
                refine den_cut (r := x1) (fun j6 : Int × Bool × Bool × Bool => ⟨[(0, .sl 1 e_i64 y0), (1, .sl 1 (e_sl 1 e_u8) y1), (7, .int .i64 (.v a5)), (87, .int .i64 (.v j6.1)), (88, .bool (.v j6.2.1)), (89, .bool (.v j6.2.2.1)), (97, .bool (.v j6.2.2.2))], [], []⟩) (jetsamref12_Order_K3 a5) ?_ (fun j6 h => ?_)
                · conv => cbv
                  refine den_elem h fun p7 _ h => ?_
                  conv => cbv
                  refine .mk ?_
                  conv => cbv
                  refine den_br h (fun _ h => ?_) (fun _ h => ?_)
                  · conv => cbv
                    refine den_elem h fun p8 _ h => ?_
                    conv => cbv
                    refine .mk ?_
                    conv => cbv
                    refine den_br h (fun _ h => ?_) (fun _ h => ?_)
                    · conv => cbv
                      refine .mk ?_
                      conv => cbv
                      refine .mk ?_
                      conv => cbv
                      replace h := den_out h hx1
                      cases h
                      exact .int _ _ _ rfl
                    · conv => cbv
                      refine den_elem h fun p9 _ h => ?_
                      conv => cbv
                      refine .mk ?_
                      conv => cbv
                      refine den_br h (fun _ h => ?_) (fun _ h => ?_)
                      · conv => cbv
                        refine den_elem h fun p10 _ h => ?_
                        conv => cbv
                        refine .mk ?_
                        conv => cbv
                        refine den_br h (fun _ h => ?_) (fun _ h => ?_)
                        · conv => cbv
                          replace h := den_out h hx1
                          cases h
                          exact .int _ _ _ rfl
                        · conv => cbv
                          refine den_loop (jetsamref12_Order_L2 y0 y1 a5 p9 p10) h (fun a11 : Int => ⟨[(0, .sl 1 e_i64 y0), (1, .sl 1 (e_sl 1 e_u8) y1), (7, .int .i64 (.v a5)), (8, .int .i64 (.v a11)), (78, .rptr [.sl 1 e_u8 p8]), (79, .sl 1 e_u8 p8), (80, .int .i64 (.len p8)), (81, .bool (.cmp .lss (.len p8) (.lit 4))), (86, .rptr [.int .i64 (.v p9)]), (87, .int .i64 (.v p9)), (88, .bool (.cmp .eql (.v p9) (.lit 3))), (89, .bool (.lit true)), (92, .rptr [.sl 1 e_u8 p10]), (93, .sl 1 e_u8 p10), (94, .int .i64 (.len p10)), (95, .int .i64 (.ar .rem .i64 (.len p10) (.lit 18))), (96, .bool (.cmp .neq (.ar .rem .i64 (.len p10) (.lit 18)) (.lit 0))), (97, .bool (.cmp .neq (.ar .rem .i64 (.len p10) (.lit 18)) (.lit 0)))], [], []⟩) ?_ (fun _ _ a11 x2 h hb2 hx2 => ?_)
                          · intro j0 hj
                            conv => cbv
                            subst hj
                            exact ⟨.same _, .same _, .same _, .int _ _ _ rfl, .same _, .same _, .same _, .same _, .same _, .same _, .same _, .same _, .same _, .same _, .same _, .same _, .same _, .same _, trivial⟩
                          · unfold jetsamref12_Order_L2 at h
                            conv => cbv
                            refine .mk ?_
                            conv => cbv
                            refine den_elem h fun p12 _ h => ?_
                            conv => cbv
                            refine .mk ?_
                            conv => cbv
                            refine den_br h (fun _ h => ?_) (fun _ h => ?_)
                            · conv => cbv
                              refine den_elem h fun p13 _ h => ?_
                              conv => cbv
                              refine den_br h (fun _ h => ?_) (fun _ h => ?_)
                              · conv => cbv
                                refine .mk ?_
                                conv => cbv
                                refine den_elem h fun p14 _ h => ?_
                                conv => cbv
                                refine den_elem h fun p15 _ h => ?_
                                conv => cbv
                                refine den_br h (fun _ h => ?_) (fun _ h => ?_)
                                · conv => cbv
                                  replace h := den_out h hx2
                                  replace h := den_out h hx1
                                  cases h
                                  exact .int _ _ _ rfl
                                · conv => cbv
                                  refine den_back h hb2 fun j0 hj => ?_
                                  conv => cbv
                                  subst hj
                                  exact ⟨.same _, .same _, .same _, .int _ _ _ rfl, .same _, .same _, .same _, .same _, .same _, .same _, .same _, .same _, .same _, .same _, .same _, .same _, .same _, .same _, trivial⟩
                              · conv => cbv
                                replace h := den_out h hx2
                                refine den_join h fun j0 hj => ?_
                                conv => cbv
                                subst hj
                                exact ⟨.same _, .same _, .same _, .int _ _ _ rfl, .bool _ _ rfl, .bool _ _ rfl, .bool _ _ rfl, trivial⟩
                            · conv => cbv
                              replace h := den_out h hx2
                              refine den_join h fun j0 hj => ?_
                              conv => cbv
                              subst hj
                              exact ⟨.same _, .same _, .same _, .int _ _ _ rfl, .bool _ _ rfl, .bool _ _ rfl, .bool _ _ rfl, trivial⟩
                      · conv => cbv
                        refine .mk ?_
                        conv => cbv
                        refine den_loop (jetsamref12_Order_L3 y0 y1 a5 p9) h (fun a16 : Int => ⟨[(0, .sl 1 e_i64 y0), (1, .sl 1 (e_sl 1 e_u8) y1), (7, .int .i64 (.v a5)), (8, .int .i64 (.v a16)), (78, .rptr [.sl 1 e_u8 p8]), (79, .sl 1 e_u8 p8), (80, .int .i64 (.len p8)), (81, .bool (.cmp .lss (.len p8) (.lit 4))), (86, .rptr [.int .i64 (.v p9)]), (87, .int .i64 (.v p9)), (88, .bool (.cmp .eql (.v p9) (.lit 3))), (89, .bool (.lit false)), (97, .bool (.lit false))], [], []⟩) ?_ (fun _ _ a16 x2 h hb2 hx2 => ?_)
                        · intro j0 hj
                          conv => cbv
                          subst hj
                          exact ⟨.same _, .same _, .same _, .int _ _ _ rfl, .same _, .same _, .same _, .same _, .same _, .same _, .same _, .same _, .same _, trivial⟩
                        · unfold jetsamref12_Order_L3 at h
                          conv => cbv
                          refine .mk ?_
                          conv => cbv
                          refine den_elem h fun p17 _ h => ?_
                          conv => cbv
                          refine .mk ?_
                          conv => cbv
                          refine den_br h (fun _ h => ?_) (fun _ h => ?_)
                          · conv => cbv
                            refine den_elem h fun p18 _ h => ?_
                            conv => cbv
                            refine den_br h (fun _ h => ?_) (fun _ h => ?_)
                            · conv => cbv
                              refine .mk ?_
                              conv => cbv
                              refine den_elem h fun p19 _ h => ?_
                              conv => cbv
                              refine den_elem h fun p20 _ h => ?_
                              conv => cbv
                              refine den_br h (fun _ h => ?_) (fun _ h => ?_)
                              · conv => cbv
                                replace h := den_out h hx2
                                replace h := den_out h hx1
                                cases h
                                exact .int _ _ _ rfl
                              · conv => cbv
                                refine den_back h hb2 fun j0 hj => ?_
                                conv => cbv
                                subst hj
                                exact ⟨.same _, .same _, .same _, .int _ _ _ rfl, .same _, .same _, .same _, .same _, .same _, .same _, .same _, .same _, .same _, trivial⟩
                            · conv => cbv
                              replace h := den_out h hx2
                              refine den_join h fun j0 hj => ?_
                              conv => cbv
                              subst hj
                              exact ⟨.same _, .same _, .same _, .int _ _ _ rfl, .bool _ _ rfl, .bool _ _ rfl, .bool _ _ rfl, trivial⟩
                          · conv => cbv
                            replace h := den_out h hx2
                            refine den_join h fun j0 hj => ?_
                            conv => cbv
                            subst hj
                            exact ⟨.same _, .same _, .same _, .int _ _ _ rfl, .bool _ _ rfl, .bool _ _ rfl, .bool _ _ rfl, trivial⟩
                  · conv => cbv
                    refine .mk ?_
                    conv => cbv
                    refine den_elem h fun p21 _ h => ?_
                    conv => cbv
                    refine .mk ?_
                    conv => cbv
                    refine den_br h (fun _ h => ?_) (fun _ h => ?_)
                    · conv => cbv
                      refine den_elem h fun p22 _ h => ?_
                      conv => cbv
                      refine .mk ?_
                      conv => cbv
                      refine den_br h (fun _ h => ?_) (fun _ h => ?_)
                      · conv => cbv
                        replace h := den_out h hx1
                        cases h
                        exact .int _ _ _ rfl
                      · conv => cbv
                        refine den_loop (jetsamref12_Order_L2 y0 y1 a5 p21 p22) h (fun a23 : Int => ⟨[(0, .sl 1 e_i64 y0), (1, .sl 1 (e_sl 1 e_u8) y1), (7, .int .i64 (.v a5)), (8, .int .i64 (.v a23)), (84, .sl 1 e_i64 y0), (85, .int .i64 (.v a5)), (86, .rptr [.int .i64 (.v p21)]), (87, .int .i64 (.v p21)), (88, .bool (.cmp .eql (.v p21) (.lit 3))), (89, .bool (.lit true)), (92, .rptr [.sl 1 e_u8 p22]), (93, .sl 1 e_u8 p22), (94, .int .i64 (.len p22)), (95, .int .i64 (.ar .rem .i64 (.len p22) (.lit 18))), (96, .bool (.cmp .neq (.ar .rem .i64 (.len p22) (.lit 18)) (.lit 0))), (97, .bool (.cmp .neq (.ar .rem .i64 (.len p22) (.lit 18)) (.lit 0)))], [], []⟩) ?_ (fun _ _ a23 x2 h hb2 hx2 => ?_)
                        · intro j0 hj
                          conv => cbv
                          subst hj
                          exact ⟨.same _, .same _, .same _, .int _ _ _ rfl, .same _, .same _, .same _, .same _, .same _, .same _, .same _, .same _, .same _, .same _, .same _, .same _, trivial⟩
                        · unfold jetsamref12_Order_L2 at h
                          conv => cbv
                          refine .mk ?_
                          conv => cbv
                          refine den_elem h fun p24 _ h => ?_
                          conv => cbv
                          refine .mk ?_
                          conv => cbv
                          refine den_br h (fun _ h => ?_) (fun _ h => ?_)
                          · conv => cbv
                            refine den_elem h fun p25 _ h => ?_
                            conv => cbv
                            refine den_br h (fun _ h => ?_) (fun _ h => ?_)
                            · conv => cbv
                              refine .mk ?_
                              conv => cbv
                              refine den_elem h fun p26 _ h => ?_
                              conv => cbv
                              refine den_elem h fun p27 _ h => ?_
                              conv => cbv
                              refine den_br h (fun _ h => ?_) (fun _ h => ?_)
                              · conv => cbv
                                replace h := den_out h hx2
                                replace h := den_out h hx1
                                cases h
                                exact .int _ _ _ rfl
                              · conv => cbv
                                refine den_back h hb2 fun j0 hj => ?_
                                conv => cbv
                                subst hj
                                exact ⟨.same _, .same _, .same _, .int _ _ _ rfl, .same _, .same _, .same _, .same _, .same _, .same _, .same _, .same _, .same _, .same _, .same _, .same _, trivial⟩
                            · conv => cbv
                              replace h := den_out h hx2
                              refine den_join h fun j0 hj => ?_
                              conv => cbv
                              subst hj
                              exact ⟨.same _, .same _, .same _, .int _ _ _ rfl, .bool _ _ rfl, .bool _ _ rfl, .bool _ _ rfl, trivial⟩
                          · conv => cbv
                            replace h := den_out h hx2
                            refine den_join h fun j0 hj => ?_
                            conv => cbv
                            subst hj
                            exact ⟨.same _, .same _, .same _, .int _ _ _ rfl, .bool _ _ rfl, .bool _ _ rfl, .bool _ _ rfl, trivial⟩
                    · conv => cbv
                      refine .mk ?_
                      conv => cbv
                      refine den_loop (jetsamref12_Order_L3 y0 y1 a5 p21) h (fun a28 : Int => ⟨[(0, .sl 1 e_i64 y0), (1, .sl 1 (e_sl 1 e_u8) y1), (7, .int .i64 (.v a5)), (8, .int .i64 (.v a28)), (84, .sl 1 e_i64 y0), (85, .int .i64 (.v a5)), (86, .rptr [.int .i64 (.v p21)]), (87, .int .i64 (.v p21)), (88, .bool (.cmp .eql (.v p21) (.lit 3))), (89, .bool (.lit false)), (97, .bool (.lit false))], [], []⟩) ?_ (fun _ _ a28 x2 h hb2 hx2 => ?_)
                      · intro j0 hj
                        conv => cbv
                        subst hj
                        exact ⟨.same _, .same _, .same _, .int _ _ _ rfl, .same _, .same _, .same _, .same _, .same _, .same _, .same _, trivial⟩
                      · unfold jetsamref12_Order_L3 at h
                        conv => cbv
                        refine .mk ?_
                        conv => cbv
                        refine den_elem h fun p29 _ h => ?_
                        conv => cbv
                        refine .mk ?_
                        conv => cbv
                        refine den_br h (fun _ h => ?_) (fun _ h => ?_)
                        · conv => cbv
                          refine den_elem h fun p30 _ h => ?_
                          conv => cbv
                          refine den_br h (fun _ h => ?_) (fun _ h => ?_)
                          · conv => cbv
                            refine .mk ?_
                            conv => cbv
                            refine den_elem h fun p31 _ h => ?_
                            conv => cbv
                            refine den_elem h fun p32 _ h => ?_
                            conv => cbv
                            refine den_br h (fun _ h => ?_) (fun _ h => ?_)
                            · conv => cbv
                              replace h := den_out h hx2
                              replace h := den_out h hx1
                              cases h
                              exact .int _ _ _ rfl
                            · conv => cbv
                              refine den_back h hb2 fun j0 hj => ?_
                              conv => cbv
                              subst hj
                              exact ⟨.same _, .same _, .same _, .int _ _ _ rfl, .same _, .same _, .same _, .same _, .same _, .same _, .same _, trivial⟩
                          · conv => cbv
                            replace h := den_out h hx2
                            refine den_join h fun j0 hj => ?_
                            conv => cbv
                            subst hj
                            exact ⟨.same _, .same _, .same _, .int _ _ _ rfl, .bool _ _ rfl, .bool _ _ rfl, .bool _ _ rfl, trivial⟩
                        · conv => cbv
                          replace h := den_out h hx2
                          refine den_join h fun j0 hj => ?_
                          conv => cbv
                          subst hj
                          exact ⟨.same _, .same _, .same _, .int _ _ _ rfl, .bool _ _ rfl, .bool _ _ rfl, .bool _ _ rfl, trivial⟩
                · unfold jetsamref12_Order_K3 at h
                  conv => cbv
                  refine den_back h hb1 fun j0 hj => ?_
                  conv => cbv
                  subst hj
                  exact ⟨.same _, .same _, .int _ _ _ rfl, trivial⟩
              · conv => cbv
                replace h := den_out h hx1
                refine den_join h fun j0 hj => ?_
                conv => cbv
                subst hj
                exact trivial
          · unfold jetsamref12_Order_K2 at h
            conv => cbv
            cases h
            exact .int _ _ _ rfl
def T_jetsamlaw12_BlocksWrites : Tab := []
theorem T_jetsamlaw12_BlocksWrites_ok : TabOk Tryd.prog T_jetsamlaw12_BlocksWrites := by
  have h : T_jetsamlaw12_BlocksWrites = tabOf Tryd.prog [] := by kernel_rfl
  rw [h]; exact tabOk_of (by kernel_rfl)
theorem v_jetsamlaw12_BlocksWrites {y0 : List blocks_Block} {r : Bool} (h : jetsamlaw12_BlocksWrites y0 = some r) : AVal Tryd.prog [] 3 [(e_sl 2 e_blocks_Block) y0] (e_bool r) := by
  refine aval_of (c := ⟨T_jetsamlaw12_BlocksWrites, [], 48, [], []⟩) Tryd.func3 (by kernel_rfl) rfl rfl rfl T_jetsamlaw12_BlocksWrites_ok (eqsOk_of (by kernel_rfl)) Tryd_mixed rfl fun P hP _ => ?_
  unfold jetsamlaw12_BlocksWrites at h
  conv => cbv
  refine den_call e_bool [(e_sl 2 e_blocks_Block) y0] h (fun _ h => hP ▸ v_jetsamlaw12_Few h) (.cons _ _ _ _ (.same _) .nil) rfl rfl (fun _ => rfl) fun r1 _ h => ?_
  conv => cbv
  refine den_br h (fun _ h => ?_) (fun _ h => ?_)
  · conv => cbv
    refine den_call e_bool [] h (fun _ h => hP ▸ v_jetsamlaw12_awake h) .nil rfl rfl (fun _ => rfl) fun r2 _ h => ?_
    conv => cbv
    cases h
    exact .same _
  · conv => cbv
    refine .mk ?_
    conv => cbv
    refine den_call (fun r : (List Int) × (List (List Int)) => .tup [(e_sl 1 e_i64) r.1, (e_sl 1 (e_sl 1 e_u8)) r.2]) [(e_sl 2 e_blocks_Block) y0] h (fun _ h => hP ▸ v_jetsamlaw12_Plain h) (.cons _ _ _ _ (.same _) .nil) rfl rfl (fun _ => rfl) fun r3 _ h => ?_
    conv => cbv
    refine .mk ?_
    conv => cbv
    refine den_call (fun r : (List Int) × Int => .tup [(e_sl 1 e_u8) r.1, e_i64 r.2]) [(e_sl 2 e_blocks_Block) y0] h (fun _ h => hP ▸ v_blocks_Write h) (.cons _ _ _ _ (.same _) .nil) rfl rfl (fun _ => rfl) fun r4 _ h => ?_
    conv => cbv
    refine .mk ?_
    conv => cbv
    refine den_call (fun r : (List Int) × Int => .tup [(e_sl 1 e_u8) r.1, e_i64 r.2]) [(e_sl 1 e_i64) r3.1, (e_sl 1 (e_sl 1 e_u8)) r3.2] h (fun _ h => hP ▸ v_jetsamref12_Write h) (.cons _ _ _ _ (.same _) (.cons _ _ _ _ (.same _) .nil)) rfl rfl (fun _ => rfl) fun r5 _ h => ?_
    conv => cbv
    refine .mk ?_
    conv => cbv
    refine den_call e_bool [(e_sl 1 e_u8) r4.1, (e_sl 1 e_u8) r5.1] h (fun _ h => hP ▸ v_jetsamlaw11_Bytes h) (.cons _ _ _ _ (.same _) (.cons _ _ _ _ (.same _) .nil)) rfl rfl (fun _ => rfl) fun r6 _ h => ?_
    conv => cbv
    refine .mk ?_
    conv => cbv
    refine den_br h (fun _ h => ?_) (fun _ h => ?_)
    · conv => cbv
      refine den_call e_i64 [(e_sl 2 e_blocks_Block) y0] h (fun _ h => hP ▸ v_blocks_Order h) (.cons _ _ _ _ (.same _) .nil) rfl rfl (fun _ => rfl) fun r7 _ h => ?_
      conv => cbv
      refine den_call e_i64 [(e_sl 1 e_i64) r3.1, (e_sl 1 (e_sl 1 e_u8)) r3.2] h (fun _ h => hP ▸ v_jetsamref12_Order h) (.cons _ _ _ _ (.same _) (.cons _ _ _ _ (.same _) .nil)) rfl rfl (fun _ => rfl) fun r8 _ h => ?_
      conv => cbv
      refine .mk ?_
      conv => cbv
      refine den_br h (fun _ h => ?_) (fun _ h => ?_)
      · conv => cbv
        refine den_call e_bool [] h (fun _ h => hP ▸ v_jetsamlaw12_awake h) .nil rfl rfl (fun _ => rfl) fun r9 _ h => ?_
        conv => cbv
        cases h
        exact .same _
      · conv => cbv
        cases h
        exact .bool _ _ rfl
    · conv => cbv
      refine .mk ?_
      conv => cbv
      cases h
      exact .bool _ _ rfl
def T_jetsamlaw12_BlocksTurns : Tab := [(22, ⟨.slice 38, 1, 24, [.nilsl]⟩), (38, ⟨.struct [(0, 3), (1, 29)], 2, 32, [.int .i64 (.lit 0), .nilsl]⟩)]
theorem T_jetsamlaw12_BlocksTurns_ok : TabOk Tryd.prog T_jetsamlaw12_BlocksTurns := by
  have h : T_jetsamlaw12_BlocksTurns = tabOf Tryd.prog [22, 38] := by kernel_rfl
  rw [h]; exact tabOk_of (by kernel_rfl)
theorem v_jetsamlaw12_BlocksTurns {y0 : List blocks_Block} {y1 : Int} {r : Bool} (h : jetsamlaw12_BlocksTurns y0 y1 = some r) : AVal Tryd.prog [] 4 [(e_sl 2 e_blocks_Block) y0, e_i64 y1] (e_bool r) := by
  refine aval_of (c := ⟨T_jetsamlaw12_BlocksTurns, [], 55, [], []⟩) Tryd.func4 (by kernel_rfl) rfl rfl rfl T_jetsamlaw12_BlocksTurns_ok (eqsOk_of (by kernel_rfl)) Tryd_mixed rfl fun P hP _ => ?_
  unfold jetsamlaw12_BlocksTurns at h
  conv => cbv
  refine den_call e_bool [(e_sl 2 e_blocks_Block) y0] h (fun _ h => hP ▸ v_jetsamlaw12_Few h) (.cons _ _ _ _ (.same _) .nil) rfl rfl (fun _ => rfl) fun r1 _ h => ?_
  conv => cbv
  refine .mk ?_
  conv => cbv
  refine den_br h (fun _ h => ?_) (fun _ h => ?_)
  · conv => cbv
    refine den_call e_bool [] h (fun _ h => hP ▸ v_jetsamlaw12_awake h) .nil rfl rfl (fun _ => rfl) fun r2 _ h => ?_
    conv => cbv
    cases h
    exact .same _
  · conv => cbv
    refine den_elem h fun p3 _ h => ?_
    conv => cbv
    refine den_build (fun (l4 : List blocks_Block) => (iter (jetsamlaw12_BlocksTurns_L1 y0 y1) (0, l4))) e_blocks_Block [p3] (.cons _ _ _ _ (VEq.of_lepl (.cons _ _ _ _ (.same _) (.cons _ _ _ _ (.same _) .nil)) rfl) .nil) h fun l4 _ h => ?_
    conv => cbv
    refine den_cut (r := r) (fun j5 : (List blocks_Block) => ⟨[(0, .sl 2 e_blocks_Block y0), (6, .osl 23)], [(23, .arr false 38 2 e_blocks_Block j5)], []⟩) (jetsamlaw12_BlocksTurns_K1 y0) ?_ (fun j5 h => ?_)
    · conv => cbv
      refine den_loop (jetsamlaw12_BlocksTurns_L1 y0 y1) h (fun a9 : Int × (List blocks_Block) => ⟨[(0, .sl 2 e_blocks_Block y0), (1, .int .i64 (.v y1)), (5, .int .i64 (.ar .sub .i64 (.len y0) (.lit 1))), (6, .osl 23), (7, .int .i64 (.v a9.1))], [(23, .arr false 38 2 e_blocks_Block a9.2)], []⟩) ?_ (fun _ _ a9 x1 h hb1 hx1 => ?_)
      · intro j0 hj
        conv => cbv
        subst hj
        exact ⟨⟨.arr _ _ _ _ _ _ rfl, trivial⟩, .same _, .same _, .same _, .same _, .int _ _ _ rfl, trivial⟩
      · unfold jetsamlaw12_BlocksTurns_L1 at h
        conv => cbv
        refine den_br h (fun _ h => ?_) (fun _ h => ?_)
        · conv => cbv
          refine .mk ?_
          conv => cbv
          refine den_chk h fun h => ?_
          conv => cbv
          refine .mk ?_
          conv => cbv
          refine den_chk h fun h => ?_
          conv => cbv
          refine den_chk h fun h => ?_
          conv => cbv
          refine .mk ?_
          conv => cbv
          refine den_elem h fun p10 _ h => ?_
          conv => cbv
          refine .data ?_
          conv => cbv
          refine den_app_own e_blocks_Block (xs := [p10]) h rfl (News.sls (.cons _ _ _ _ (VEq.of_lepl (.cons _ _ _ _ (.same _) (.cons _ _ _ _ (.same _) .nil)) rfl) .nil)) fun l11 _ h => ?_
          conv => cbv
          refine den_back h hb1 fun j0 hj => ?_
          conv => cbv
          subst hj
          exact ⟨⟨.arr _ _ _ _ _ _ rfl, trivial⟩, .same _, .same _, .same _, .same _, .int _ _ _ rfl, trivial⟩
        · conv => cbv
          replace h := den_out h hx1
          refine den_join h fun j0 hj => ?_
          conv => cbv
          subst hj
          exact ⟨⟨.arr _ _ _ _ _ _ rfl, trivial⟩, .same _, .same _, trivial⟩
    · unfold jetsamlaw12_BlocksTurns_K1 at h
      conv => cbv
      refine den_lend e_i64 [(e_sl 2 e_blocks_Block) j5] h (fun _ h => hP ▸ v_blocks_Order h) (.cons _ _ _ _ (.same _) .nil) (fun _ => rfl) fun r6 _ h => ?_
      conv => cbv
      refine .mk ?_
      conv => cbv
      refine den_call e_i64 [(e_sl 2 e_blocks_Block) y0] h (fun _ h => hP ▸ v_blocks_Order h) (.cons _ _ _ _ (.same _) .nil) rfl rfl (fun _ => rfl) fun r7 _ h => ?_
      conv => cbv
      refine den_br h (fun _ h => ?_) (fun _ h => ?_)
      · conv => cbv
        refine den_call e_bool [] h (fun _ h => hP ▸ v_jetsamlaw12_awake h) .nil rfl rfl (fun _ => rfl) fun r8 _ h => ?_
        conv => cbv
        cases h
        exact .same _
      · conv => cbv
        cases h
        exact .bool _ _ rfl
end Go.Proofs.YtnapnedfhimikaaDoor
