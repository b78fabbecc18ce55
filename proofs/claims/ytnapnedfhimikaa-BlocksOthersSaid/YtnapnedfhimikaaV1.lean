/- That the code answers so, printed by a program. -/
import Derived.Test.YtnapnedfhimikaaF1
import Derived.Test.YtnapnedfhimikaaK4
import Derived.Test.YtnapnedfhimikaaK3
import Derived.Test.YtnapnedfhimikaaProg
set_option maxRecDepth 4000
set_option linter.all false
set_option linter.unusedVariables false
set_option linter.unusedSimpArgs false
namespace Go.Proofs.Ytnapnedfhimikaa
open Go Go.Vg
theorem Try_mixed : Try.prog.follows .mixedOrders = true := by kernel_rfl
def T_blocks_Zeros : Tab := [(3, ⟨.int .i64, 1, 8, [.int .i64 (.lit 0)]⟩), (5, ⟨.int .u8, 1, 1, [.int .u8 (.lit 0)]⟩), (35, ⟨.slice 5, 1, 24, [.nilsl]⟩), (37, ⟨.struct [(0, 3), (1, 35)], 2, 32, [.int .i64 (.lit 0), .nilsl]⟩)]
theorem T_blocks_Zeros_ok : TabOk Try.prog T_blocks_Zeros := by
  have h : T_blocks_Zeros = tabOf Try.prog [3, 5, 35, 37] := by kernel_rfl
  rw [h]; exact tabOk_of (by kernel_rfl)
theorem v_blocks_Zeros {y0 : Int} {r : blocks_Block × Int} (h : blocks_Zeros y0 = some r) : AVal Try.prog [] 17 [e_i64 y0] (.tup [e_blocks_Block r.1, e_i64 r.2]) := by
  refine aval_of (c := ⟨T_blocks_Zeros, [], 14, [], []⟩) Try.func17 (by kernel_rfl) rfl rfl rfl T_blocks_Zeros_ok (eqsOk_of (by kernel_rfl)) Try_mixed rfl fun P hP _ => ?_
  unfold blocks_Zeros at h
  conv => cbv
  refine .mk ?_
  conv => cbv
  refine den_br h (fun _ h => ?_) (fun _ h => ?_)
  · conv => cbv
    cases h
    exact .tup _ _ (.cons _ _ _ _ (.agg _ _ (.cons _ _ _ _ (.int _ _ _ rfl) (.cons _ _ _ _ (.nil _ _ _ rfl) .nil))) (.cons _ _ _ _ (.int _ _ _ rfl) .nil))
  · conv => cbv
    refine den_make e_u8 (x := (0 : Int)) h (CEqL.of_lepl (.cons _ _ _ _ (.int _ _ _ rfl) .nil) rfl) fun l1 _ h => ?_
    conv => cbv
    cases h
    exact .tup _ _ (.cons _ _ _ _ (.agg _ _ (.cons _ _ _ _ (.int _ _ _ rfl) (.cons _ _ _ _ (.sl _ _ _ _ rfl) .nil))) (.cons _ _ _ _ (.int _ _ _ rfl) .nil))
def T_blocks_big : Tab := [(3, ⟨.int .i64, 1, 8, [.int .i64 (.lit 0)]⟩), (5, ⟨.int .u8, 1, 1, [.int .u8 (.lit 0)]⟩), (35, ⟨.slice 5, 1, 24, [.nilsl]⟩)]
theorem T_blocks_big_ok : TabOk Try.prog T_blocks_big := by
  have h : T_blocks_big = tabOf Try.prog [3, 5, 35] := by kernel_rfl
  rw [h]; exact tabOk_of (by kernel_rfl)
theorem v_blocks_big {y0 : Int} {y1 : Int} {r : List Int} (h : blocks_big y0 y1 = some r) : AVal Try.prog [] 38 [e_i64 y0, e_i64 y1] ((e_sl 1 e_u8) r) := by
  refine aval_of (c := ⟨T_blocks_big, [], 27, [], []⟩) Try.func38 (by kernel_rfl) rfl rfl rfl T_blocks_big_ok (eqsOk_of (by kernel_rfl)) Try_mixed rfl fun P hP _ => ?_
  unfold blocks_big at h
  conv => cbv
  refine den_make e_u8 (x := (0 : Int)) h (CEqL.of_lepl (.cons _ _ _ _ (.int _ _ _ rfl) .nil) rfl) fun l1 _ h => ?_
  conv => cbv
  refine den_cut (r := r) (fun j2 : (List Int) => ⟨[(5, .osl 8)], [(8, .arr false 5 1 e_u8 j2)], []⟩) blocks_big_K1 ?_ (fun j2 h => ?_)
  · conv => cbv
    refine den_loop (blocks_big_L1 y0 y1 l1) h (fun a3 : Int × (List Int) => ⟨[(0, .int .i64 (.v y0)), (1, .int .i64 (.v y1)), (5, .osl 8), (10, .int .i64 (.len l1)), (11, .int .i64 (.v a3.1))], [(8, .arr false 5 1 e_u8 a3.2)], []⟩) ?_ (fun _ _ a3 x1 h hb1 hx1 => ?_)
    · intro j0 hj
      conv => cbv
      subst hj
      exact ⟨⟨.arr _ _ _ _ _ _ rfl, trivial⟩, .same _, .same _, .same _, .same _, .int _ _ _ rfl, trivial⟩
    · unfold blocks_big_L1 at h
      conv => cbv
      refine den_br h (fun _ h => ?_) (fun _ h => ?_)
      · conv => cbv
        refine .mk ?_
        conv => cbv
        refine .mk ?_
        conv => cbv
        refine den_chk h fun h => ?_
        conv => cbv
        refine den_chk h fun h => ?_
        conv => cbv
        refine den_chk h fun h => ?_
        conv => cbv
        refine den_estore (f := e_u8) (IntKind.u8.wrap (shD .shr .i64 y0 (W (8 * a3.1)))) h (fun _ => CEqL.of_lepl (.cons _ _ _ _ (.int _ _ _ rfl) .nil) rfl) fun l4 _ h => ?_
        conv => cbv
        refine den_back h hb1 fun j0 hj => ?_
        conv => cbv
        subst hj
        exact ⟨⟨.arr _ _ _ _ _ _ rfl, trivial⟩, .same _, .same _, .same _, .same _, .int _ _ _ rfl, trivial⟩
      · conv => cbv
        replace h := den_out h hx1
        refine den_join h fun j0 hj => ?_
        conv => cbv
        subst hj
        exact ⟨⟨.arr _ _ _ _ _ _ rfl, trivial⟩, .same _, trivial⟩
  · unfold blocks_big_K1 at h
    conv => cbv
    cases h
    exact .same _
def T_slices_Concat_sbyte_byte : Tab := [(5, ⟨.int .u8, 1, 1, [.int .u8 (.lit 0)]⟩), (35, ⟨.slice 5, 1, 24, [.nilsl]⟩), (58, ⟨.slice 35, 1, 24, [.nilsl]⟩)]
theorem T_slices_Concat_sbyte_byte_ok : TabOk Try.prog T_slices_Concat_sbyte_byte := by
  have h : T_slices_Concat_sbyte_byte = tabOf Try.prog [5, 35, 58] := by kernel_rfl
  rw [h]; exact tabOk_of (by kernel_rfl)
theorem v_slices_Concat_sbyte_byte {y0 : List (List Int)} {r : List Int} (h : slices_Concat_sbyte_byte y0 = some r) : AVal Try.prog [] 37 [(e_sl 1 (e_sl 1 e_u8)) y0] ((e_sl 1 e_u8) r) := by
  refine aval_of (c := ⟨T_slices_Concat_sbyte_byte, [], 36, [], []⟩) Try.func37 (by kernel_rfl) rfl rfl rfl T_slices_Concat_sbyte_byte_ok (eqsOk_of (by kernel_rfl)) Try_mixed rfl fun P hP _ => ?_
  unfold slices_Concat_sbyte_byte at h
  conv => cbv
  refine den_cut (r := r) (fun j1 : Int => ⟨[(0, .sl 1 (e_sl 1 e_u8) y0), (3, .int .i64 (.v j1))], [], []⟩) (slices_Concat_sbyte_byte_K1 y0) ?_ (fun j1 h => ?_)
  · conv => cbv
    refine den_loop (slices_Concat_sbyte_byte_L2 y0) h (fun a7 : Int × Int => ⟨[(0, .sl 1 (e_sl 1 e_u8) y0), (3, .int .i64 (.v a7.1)), (9, .sl 1 (e_sl 1 e_u8) y0), (10, .int .i64 (.len y0)), (11, .int .i64 (.v a7.2))], [], []⟩) ?_ (fun _ _ a7 x1 h hb1 hx1 => ?_)
    · intro j0 hj
      conv => cbv
      subst hj
      exact ⟨.same _, .int _ _ _ rfl, .same _, .same _, .int _ _ _ rfl, trivial⟩
    · unfold slices_Concat_sbyte_byte_L2 at h
      conv => cbv
      refine den_br h (fun _ h => ?_) (fun _ h => ?_)
      · conv => cbv
        refine den_elem h fun p8 _ h => ?_
        conv => cbv
        refine den_br h (fun _ h => ?_) (fun _ h => ?_)
        · conv => cbv
          exact den_none h
        · conv => cbv
          refine den_back h hb1 fun j0 hj => ?_
          conv => cbv
          subst hj
          exact ⟨.same _, .int _ _ _ rfl, .same _, .same _, .int _ _ _ rfl, trivial⟩
      · conv => cbv
        replace h := den_out h hx1
        refine den_join h fun j0 hj => ?_
        conv => cbv
        subst hj
        exact ⟨.same _, .int _ _ _ rfl, trivial⟩
  · unfold slices_Concat_sbyte_byte_K1 at h
    conv => cbv
    refine den_own [(24, 20000, true)] [] (fun _ => .osl 20000) [] (fun r => [(20000, .arr false 5 1 e_u8 r)]) [.nilsl, e_i64 j1] h (fun _ h => hP ▸ g_grow h) (fun _ => rfl) (.cons _ _ _ _ (.same _) (.cons _ _ _ _ (.same _) .nil)) rfl True.intro fun r2 _ h => ?_
    conv => cbv
    refine den_cut (r := r) (fun j3 : (List Int) => ⟨[(6, .osl 24)], [(24, .arr false 5 1 e_u8 j3)], []⟩) slices_Concat_sbyte_byte_K2 ?_ (fun j3 h => ?_)
    · conv => cbv
      refine den_loop (slices_Concat_sbyte_byte_L1 y0) h (fun a4 : Int × (List Int) => ⟨[(6, .osl 24), (25, .sl 1 (e_sl 1 e_u8) y0), (26, .int .i64 (.len y0)), (27, .int .i64 (.v a4.1))], [(24, .arr false 5 1 e_u8 a4.2)], []⟩) ?_ (fun _ _ a4 x1 h hb1 hx1 => ?_)
      · intro j0 hj
        conv => cbv
        subst hj
        exact ⟨⟨.arr _ _ _ _ _ _ rfl, trivial⟩, .same _, .same _, .same _, .int _ _ _ rfl, trivial⟩
      · unfold slices_Concat_sbyte_byte_L1 at h
        conv => cbv
        refine den_br h (fun _ h => ?_) (fun _ h => ?_)
        · conv => cbv
          refine den_elem h fun p5 _ h => ?_
          conv => cbv
          refine den_app_own e_u8 (xs := p5) h rfl (News.map rfl) fun l6 _ h => ?_
          conv => cbv
          refine den_back h hb1 fun j0 hj => ?_
          conv => cbv
          subst hj
          exact ⟨⟨.arr _ _ _ _ _ _ rfl, trivial⟩, .same _, .same _, .same _, .int _ _ _ rfl, trivial⟩
        · conv => cbv
          replace h := den_out h hx1
          refine den_join h fun j0 hj => ?_
          conv => cbv
          subst hj
          exact ⟨⟨.arr _ _ _ _ _ _ rfl, trivial⟩, .same _, trivial⟩
    · unfold slices_Concat_sbyte_byte_K2 at h
      conv => cbv
      cases h
      exact .same _
def T_blocks_Write : Tab := [(3, ⟨.int .i64, 1, 8, [.int .i64 (.lit 0)]⟩), (5, ⟨.int .u8, 1, 1, [.int .u8 (.lit 0)]⟩), (35, ⟨.slice 5, 1, 24, [.nilsl]⟩), (37, ⟨.struct [(0, 3), (1, 35)], 2, 32, [.int .i64 (.lit 0), .nilsl]⟩), (55, ⟨.slice 37, 1, 24, [.nilsl]⟩), (58, ⟨.slice 35, 1, 24, [.nilsl]⟩)]
theorem T_blocks_Write_ok : TabOk Try.prog T_blocks_Write := by
  have h : T_blocks_Write = tabOf Try.prog [3, 5, 35, 37, 55, 58] := by kernel_rfl
  rw [h]; exact tabOk_of (by kernel_rfl)
theorem v_blocks_Write {y0 : List blocks_Block} {r : (List Int) × Int} (h : blocks_Write y0 = some r) : AVal Try.prog [] 30 [(e_sl 2 e_blocks_Block) y0] (.tup [(e_sl 1 e_u8) r.1, e_i64 r.2]) := by
  refine aval_of (c := ⟨T_blocks_Write, [], 55, [], []⟩) Try.func30 (by kernel_rfl) rfl rfl rfl T_blocks_Write_ok (eqsOk_of (by kernel_rfl)) Try_mixed rfl fun P hP _ => ?_
  unfold blocks_Write at h
  conv => cbv
  refine den_br h (fun _ h => ?_) (fun _ h => ?_)
  · conv => cbv
    cases h
    exact .tup _ _ (.cons _ _ _ _ (.nil _ _ _ rfl) (.cons _ _ _ _ (.int _ _ _ rfl) .nil))
  · conv => cbv
    refine den_cut (r := r) (fun j1 : (List Int) => ⟨[(4, .sl 1 e_u8 j1)], [], []⟩) blocks_Write_K1 ?_ (fun j1 h => ?_)
    · conv => cbv
      refine den_loop (blocks_Write_L1 y0) h (fun a2 : (List Int) × Int => ⟨[(0, .sl 2 e_blocks_Block y0), (4, .sl 1 e_u8 a2.1), (11, .sl 2 e_blocks_Block y0), (12, .int .i64 (.len y0)), (13, .int .i64 (.v a2.2))], [], []⟩) ?_ (fun _ _ a2 x1 h hb1 hx1 => ?_)
      · intro j0 hj
        conv => cbv
        subst hj
        exact ⟨.same _, .nil _ _ _ rfl, .same _, .same _, .int _ _ _ rfl, trivial⟩
      · unfold blocks_Write_L1 at h
        conv => cbv
        refine den_br h (fun _ h => ?_) (fun _ h => ?_)
        · conv => cbv
          refine .mk ?_
          conv => cbv
          refine den_elem h fun p3 _ h => ?_
          conv => cbv
          refine .mk ?_
          conv => cbv
          refine den_br h (fun _ h => ?_) (fun _ h => ?_)
          · conv => cbv
            replace h := den_out h hx1
            cases h
            exact .tup _ _ (.cons _ _ _ _ (.nil _ _ _ rfl) (.cons _ _ _ _ (.int _ _ _ rfl) .nil))
          · conv => cbv
            refine den_br h (fun _ h => ?_) (fun _ h => ?_)
            · conv => cbv
              replace h := den_out h hx1
              cases h
              exact .tup _ _ (.cons _ _ _ _ (.nil _ _ _ rfl) (.cons _ _ _ _ (.int _ _ _ rfl) .nil))
            · conv => cbv
              refine den_cut (r := x1) (fun j4 : Int => ⟨[(0, .sl 2 e_blocks_Block y0), (4, .sl 1 e_u8 a2.1), (6, .ptr 6 0), (7, .int .i64 (.v j4)), (11, .sl 2 e_blocks_Block y0), (12, .int .i64 (.len y0)), (13, .int .i64 (.v a2.2))], [(6, .var [.int .i64 (.v p3.m_Type), .sl 1 e_u8 p3.Data])], []⟩) (blocks_Write_K2 a2 p3) ?_ (fun j4 h => ?_)
              · conv => cbv
                refine den_br h (fun _ h => ?_) (fun _ h => ?_)
                · conv => cbv
                  refine den_join h fun j0 hj => ?_
                  conv => cbv
                  subst hj
                  exact ⟨⟨.same _, trivial⟩, .same _, .same _, .same _, .int _ _ _ rfl, .same _, .same _, .same _, trivial⟩
                · conv => cbv
                  refine den_join h fun j0 hj => ?_
                  conv => cbv
                  subst hj
                  exact ⟨⟨.same _, trivial⟩, .same _, .same _, .same _, .int _ _ _ rfl, .same _, .same _, .same _, trivial⟩
              · unfold blocks_Write_K2 at h
                conv => cbv
                refine .mk (by kernel_rfl) ?_
                conv => cbv
                refine .mk ?_
                conv => cbv
                refine ⟨?_, ?_⟩
                · refine den_call (e_sl 1 e_u8) [e_i64 (p3.Data.length : Int), e_i64 (3 : Int)] h (fun _ h => hP ▸ v_blocks_big h) (.cons _ _ _ _ (.int _ _ _ rfl) (.cons _ _ _ _ (.int _ _ _ rfl) .nil)) rfl rfl (fun _ => rfl) fun r5 _ h => ?_
                  conv => cbv
                  refine .mk ?_
                  conv => cbv
                  refine den_call (e_sl 1 e_u8) [(e_sl 1 (e_sl 1 e_u8)) [a2.1, [(IntKind.u8.wrap j4)], r5, p3.Data]] h (fun _ h => hP ▸ v_slices_Concat_sbyte_byte h) (.cons _ _ _ _ (.sls (.cons _ _ _ _ (VEq.of_lepl (.cons _ _ _ _ (.same _) .nil) rfl) (.cons _ _ _ _ (VEq.of_lepl (.cons _ _ _ _ (.sls (.cons _ _ _ _ (VEq.of_lepl (.cons _ _ _ _ (.int _ _ _ rfl) .nil) rfl) .nil)) .nil) rfl) (.cons _ _ _ _ (VEq.of_lepl (.cons _ _ _ _ (.same _) .nil) rfl) (.cons _ _ _ _ (VEq.of_lepl (.cons _ _ _ _ (.same _) .nil) rfl) .nil))))) .nil) rfl rfl (fun _ => rfl) fun r6 _ h => ?_
                  conv => cbv
                  refine den_back h hb1 fun j0 hj => ?_
                  conv => cbv
                  subst hj
                  exact ⟨.same _, .sl _ _ _ _ rfl, .same _, .same _, .int _ _ _ rfl, trivial⟩
                · refine den_call (e_sl 1 e_u8) [e_i64 (p3.Data.length : Int), e_i64 (3 : Int)] h (fun _ h => hP ▸ v_blocks_big h) (.cons _ _ _ _ (.int _ _ _ rfl) (.cons _ _ _ _ (.int _ _ _ rfl) .nil)) rfl rfl (fun _ => rfl) fun r7 _ h => ?_
                  conv => cbv
                  refine .mk ?_
                  conv => cbv
                  refine den_call (e_sl 1 e_u8) [(e_sl 1 (e_sl 1 e_u8)) [a2.1, [(IntKind.u8.wrap j4)], r7, p3.Data]] h (fun _ h => hP ▸ v_slices_Concat_sbyte_byte h) (.cons _ _ _ _ (.sls (.cons _ _ _ _ (VEq.of_lepl (.cons _ _ _ _ (.same _) .nil) rfl) (.cons _ _ _ _ (VEq.of_lepl (.cons _ _ _ _ (.sls (.cons _ _ _ _ (VEq.of_lepl (.cons _ _ _ _ (.int _ _ _ rfl) .nil) rfl) .nil)) .nil) rfl) (.cons _ _ _ _ (VEq.of_lepl (.cons _ _ _ _ (.same _) .nil) rfl) (.cons _ _ _ _ (VEq.of_lepl (.cons _ _ _ _ (.same _) .nil) rfl) .nil))))) .nil) rfl rfl (fun _ => rfl) fun r8 _ h => ?_
                  conv => cbv
                  refine den_back h hb1 fun j0 hj => ?_
                  conv => cbv
                  subst hj
                  exact ⟨.same _, .sl _ _ _ _ rfl, .same _, .same _, .int _ _ _ rfl, trivial⟩
        · conv => cbv
          replace h := den_out h hx1
          refine den_join h fun j0 hj => ?_
          conv => cbv
          subst hj
          exact ⟨.sl _ _ _ _ rfl, trivial⟩
    · unfold blocks_Write_K1 at h
      conv => cbv
      cases h
      exact .tup _ _ (.cons _ _ _ _ (.same _) (.cons _ _ _ _ (.int _ _ _ rfl) .nil))
def T_blocks_number : Tab := [(3, ⟨.int .i64, 1, 8, [.int .i64 (.lit 0)]⟩), (5, ⟨.int .u8, 1, 1, [.int .u8 (.lit 0)]⟩), (35, ⟨.slice 5, 1, 24, [.nilsl]⟩)]
theorem T_blocks_number_ok : TabOk Try.prog T_blocks_number := by
  have h : T_blocks_number = tabOf Try.prog [3, 5, 35] := by kernel_rfl
  rw [h]; exact tabOk_of (by kernel_rfl)
theorem v_blocks_number {y0 : List Int} {r : Int} (h : blocks_number y0 = some r) : AVal Try.prog [] 42 [(e_sl 1 e_u8) y0] (e_i64 r) := by
  refine aval_of (c := ⟨T_blocks_number, [], 19, [], []⟩) Try.func42 (by kernel_rfl) rfl rfl rfl T_blocks_number_ok (eqsOk_of (by kernel_rfl)) Try_mixed rfl fun P hP _ => ?_
  unfold blocks_number at h
  conv => cbv
  refine den_cut (r := r) (fun j1 : Int => ⟨[(3, .int .i64 (.v j1))], [], []⟩) blocks_number_K1 ?_ (fun j1 h => ?_)
  · conv => cbv
    refine den_loop (blocks_number_L1 y0) h (fun a2 : Int × Int => ⟨[(3, .int .i64 (.v a2.1)), (6, .sl 1 e_u8 y0), (7, .int .i64 (.len y0)), (8, .int .i64 (.v a2.2))], [], []⟩) ?_ (fun _ _ a2 x1 h hb1 hx1 => ?_)
    · intro j0 hj
      conv => cbv
      subst hj
      exact ⟨.int _ _ _ rfl, .same _, .same _, .int _ _ _ rfl, trivial⟩
    · unfold blocks_number_L1 at h
      conv => cbv
      refine den_br h (fun _ h => ?_) (fun _ h => ?_)
      · conv => cbv
        refine den_elem h fun p3 _ h => ?_
        conv => cbv
        refine .mk ?_
        conv => cbv
        refine den_back h hb1 fun j0 hj => ?_
        conv => cbv
        subst hj
        exact ⟨.int _ _ _ rfl, .same _, .same _, .int _ _ _ rfl, trivial⟩
      · conv => cbv
        replace h := den_out h hx1
        refine den_join h fun j0 hj => ?_
        conv => cbv
        subst hj
        exact ⟨.int _ _ _ rfl, trivial⟩
  · unfold blocks_number_K1 at h
    conv => cbv
    cases h
    exact .same _
def T_blocks_order : Tab := [(3, ⟨.int .i64, 1, 8, [.int .i64 (.lit 0)]⟩), (27, ⟨.slice 32, 1, 24, [.nilsl]⟩), (32, ⟨.struct [(0, 3), (1, 3), (2, 3)], 3, 24, [.int .i64 (.lit 0), .int .i64 (.lit 0), .int .i64 (.lit 0)]⟩)]
theorem T_blocks_order_ok : TabOk Try.prog T_blocks_order := by
  have h : T_blocks_order = tabOf Try.prog [3, 27, 32] := by kernel_rfl
  rw [h]; exact tabOk_of (by kernel_rfl)
theorem v_blocks_order {y0 : List blocks_Point} {r : Int} (h : blocks_order y0 = some r) : AVal Try.prog [] 36 [(e_sl 3 e_blocks_Point) y0] (e_i64 r) := by
  refine aval_of (c := ⟨T_blocks_order, [], 47, [], []⟩) Try.func36 (by kernel_rfl) rfl rfl rfl T_blocks_order_ok (eqsOk_of (by kernel_rfl)) Try_mixed rfl fun P hP _ => ?_
  unfold blocks_order at h
  conv => cbv
  refine den_cut (r := r) (fun j1 : Unit => ⟨[], [], []⟩) blocks_order_K1 ?_ (fun j1 h => ?_)
  · conv => cbv
    refine den_loop (blocks_order_L1 y0) h (fun a2 : Int => ⟨[(0, .sl 3 e_blocks_Point y0), (3, .int .i64 (.v a2))], [], []⟩) ?_ (fun _ _ a2 x1 h hb1 hx1 => ?_)
    · intro j0 hj
      conv => cbv
      subst hj
      exact ⟨.same _, .int _ _ _ rfl, trivial⟩
    · unfold blocks_order_L1 at h
      conv => cbv
      refine den_br h (fun _ h => ?_) (fun _ h => ?_)
      · conv => cbv
        refine .mk (by kernel_rfl) ?_
        conv => cbv
        refine den_elem h fun p3 _ h => ?_
        conv => cbv
        refine .mk ?_
        conv => cbv
        refine .mk ?_
        conv => cbv
        refine den_br h (fun _ h => ?_) (fun _ h => ?_)
        · conv => cbv
          refine den_elem h fun p4 _ h => ?_
          conv => cbv
          refine den_elem h fun p5 _ h => ?_
          conv => cbv
          refine .mk ?_
          conv => cbv
          refine .mk ?_
          conv => cbv
          refine den_br h (fun _ h => ?_) (fun _ h => ?_)
          · conv => cbv
            refine .mk ?_
            conv => cbv
            refine .mk ?_
            conv => cbv
            replace h := den_out h hx1
            cases h
            exact .int _ _ _ rfl
          · conv => cbv
            refine den_elem h fun p6 _ h => ?_
            conv => cbv
            refine .mk ?_
            conv => cbv
            refine den_br h (fun _ h => ?_) (fun _ h => ?_)
            · conv => cbv
              refine den_elem h fun p7 _ h => ?_
              conv => cbv
              refine .mk ?_
              conv => cbv
              refine den_br h (fun _ h => ?_) (fun _ h => ?_)
              · conv => cbv
                replace h := den_out h hx1
                cases h
                exact .int _ _ _ rfl
              · conv => cbv
                refine den_back h hb1 fun j0 hj => ?_
                conv => cbv
                subst hj
                exact ⟨.same _, .int _ _ _ rfl, trivial⟩
            · conv => cbv
              refine .mk ?_
              conv => cbv
              refine den_back h hb1 fun j0 hj => ?_
              conv => cbv
              subst hj
              exact ⟨.same _, .int _ _ _ rfl, trivial⟩
        · conv => cbv
          refine .mk ?_
          conv => cbv
          refine .mk ?_
          conv => cbv
          refine den_elem h fun p8 _ h => ?_
          conv => cbv
          refine .mk ?_
          conv => cbv
          refine den_br h (fun _ h => ?_) (fun _ h => ?_)
          · conv => cbv
            refine den_elem h fun p9 _ h => ?_
            conv => cbv
            refine .mk ?_
            conv => cbv
            refine den_br h (fun _ h => ?_) (fun _ h => ?_)
            · conv => cbv
              replace h := den_out h hx1
              cases h
              exact .int _ _ _ rfl
            · conv => cbv
              refine den_back h hb1 fun j0 hj => ?_
              conv => cbv
              subst hj
              exact ⟨.same _, .int _ _ _ rfl, trivial⟩
          · conv => cbv
            refine .mk ?_
            conv => cbv
            refine den_back h hb1 fun j0 hj => ?_
            conv => cbv
            subst hj
            exact ⟨.same _, .int _ _ _ rfl, trivial⟩
      · conv => cbv
        replace h := den_out h hx1
        refine den_join h fun j0 hj => ?_
        conv => cbv
        subst hj
        exact trivial
  · unfold blocks_order_K1 at h
    conv => cbv
    cases h
    exact .int _ _ _ rfl
def T_blocks_Points : Tab := [(3, ⟨.int .i64, 1, 8, [.int .i64 (.lit 0)]⟩), (5, ⟨.int .u8, 1, 1, [.int .u8 (.lit 0)]⟩), (27, ⟨.slice 32, 1, 24, [.nilsl]⟩), (28, ⟨.int .i64, 1, 8, [.int .i64 (.lit 0)]⟩), (32, ⟨.struct [(0, 3), (1, 3), (2, 3)], 3, 24, [.int .i64 (.lit 0), .int .i64 (.lit 0), .int .i64 (.lit 0)]⟩), (35, ⟨.slice 5, 1, 24, [.nilsl]⟩)]
theorem T_blocks_Points_ok : TabOk Try.prog T_blocks_Points := by
  have h : T_blocks_Points = tabOf Try.prog [3, 5, 27, 28, 32, 35] := by kernel_rfl
  rw [h]; exact tabOk_of (by kernel_rfl)
theorem v_blocks_Points {y0 : List Int} {r : (List blocks_Point) × Int} (h : blocks_Points y0 = some r) : AVal Try.prog [] 23 [(e_sl 1 e_u8) y0] (.tup [(e_sl 3 e_blocks_Point) r.1, e_i64 r.2]) := by
  refine aval_of (c := ⟨T_blocks_Points, [], 43, [], []⟩) Try.func23 (by kernel_rfl) rfl rfl rfl T_blocks_Points_ok (eqsOk_of (by kernel_rfl)) Try_mixed rfl fun P hP _ => ?_
  unfold blocks_Points at h
  conv => cbv
  refine den_br h (fun _ h => ?_) (fun _ h => ?_)
  · conv => cbv
    cases h
    exact .tup _ _ (.cons _ _ _ _ (.nil _ _ _ rfl) (.cons _ _ _ _ (.int _ _ _ rfl) .nil))
  · conv => cbv
    refine den_cut (r := r) (fun j1 : (List blocks_Point) => ⟨[(2, .ptr 2 0), (3, .ptr 3 0), (4, .ptr 4 0)], [(2, .var [.nilsl]), (3, .var [.int .i64 (.lit 0)]), (4, .var [.osl 36]), (36, .arr false 32 3 e_blocks_Point j1)], []⟩) blocks_Points_K1 ?_ (fun j1 h => ?_)
    · conv => cbv
      refine den_own [] [] (fun _ => .fn 47 [] [.rptr [.sl 1 e_u8 y0], .rptr [.int .i64 (.v (18 : Int))]]) [] (fun _ => []) [(e_sl 1 e_u8) y0, e_i64 (18 : Int)] h (fun _ h => hP ▸ m_chunk h) (fun _ => rfl) (.cons _ _ _ _ (.same _) (.cons _ _ _ _ (.int _ _ _ rfl) .nil)) rfl True.intro fun r3 hsr3 h => ?_
      conv => cbv
      refine den_fold (step := blocks_Points_L1) (done := blocks_Points_K2) (ret := blocks_Points_K3) h (fun p4 => [.sl 1 e_u8 p4]) (fun a5 : (List blocks_Point) => ⟨[(2, .ptr 2 0), (3, .ptr 3 0), (4, .ptr 4 0)], [(2, .var [.nilsl]), (3, .var [.int .i64 (.lit 0)]), (4, .var [.osl 36]), (36, .arr false 32 3 e_blocks_Point a5)], []⟩) (fun b6 : (List blocks_Point) => ⟨[(2, .ptr 2 0), (3, .ptr 3 0), (4, .ptr 4 0)], [(2, .var [.nilsl]), (3, .var [.int .i64 (.lit 10)]), (4, .var [.osl 36]), (36, .arr false 32 3 e_blocks_Point b6)], []⟩) 47 [.rptr [.sl 1 e_u8 y0], .rptr [.int .i64 (.v (18 : Int))]] rfl rfl (hP ▸ seq_chunk _ hsr3) (fun _ => ⟨rfl, rfl⟩) ?_ (fun p4 a5 x1 h => ?_) (fun b6 h => ?_) (fun a5 h => ?_)
      · conv => cbv
        exact ⟨⟨.same _, .same _, .var _ _ (.cons _ _ _ _ (.own _ _ _ _ _ _ rfl rfl) .nil), .arr _ _ _ _ _ _ rfl, trivial⟩, .same _, .same _, .same _, trivial⟩
      · refine den_round _ [(2, 10002, false), (3, 10003, false), (4, 10004, false), (36, 10036, true)] _ [(10002, .var [.nilsl]), (10003, .var [.int .i64 (.lit 0)]), (10004, .var [.osl 10036]), (10036, .arr false 32 3 e_blocks_Point a5)] (fun a5 : (List blocks_Point) => [(10002, .var [.nilsl]), (10003, .var [.int .i64 (.lit 0)]), (10004, .var [.osl 10036]), (10036, .arr false 32 3 e_blocks_Point a5)]) (fun b6 : (List blocks_Point) => [(10002, .var [.nilsl]), (10003, .var [.int .i64 (.lit 10)]), (10004, .var [.osl 10036]), (10036, .arr false 32 3 e_blocks_Point b6)]) rfl rfl (LePl.refl _ _) (fun _ => rfl) (fun _ => rfl) rfl (by (conv => cbv); exact ⟨.same _, .same _, .same _, .same _, trivial⟩) ?_ (fun a5 => ?_) (fun b6 => ?_)
        · refine round_of (c := ⟨T_blocks_Points, [], 43, [10002, 10003, 10004], []⟩) rfl (hP ▸ T_blocks_Points_ok) (by rw [hP]; exact eqsOk_of (by kernel_rfl)) (by rw [hP]; exact Try_mixed) rfl rfl rfl rfl fun P hP2 _ => ?_
          have hP := hP2.trans hP
          unfold blocks_Points_L1 at h
          conv => cbv
          refine .mk (by kernel_rfl) ?_
          conv => cbv
          refine den_sub h fun l7 _ h => ?_
          conv => cbv
          refine den_sub h fun l8 _ h => ?_
          conv => cbv
          refine .mk ?_
          conv => cbv
          refine den_sub h fun l9 _ h => ?_
          conv => cbv
          refine ⟨?_, ?_⟩
          · refine den_call e_i64 [(e_sl 1 e_u8) l7] h (fun _ h => hP ▸ v_blocks_number h) (.cons _ _ _ _ (.same _) .nil) rfl rfl (fun _ => rfl) fun r10 _ h => ?_
            conv => cbv
            refine ⟨?_, ?_⟩
            · refine den_call e_i64 [(e_sl 1 e_u8) l8] h (fun _ h => hP ▸ v_blocks_number h) (.cons _ _ _ _ (.same _) .nil) rfl rfl (fun _ => rfl) fun r11 _ h => ?_
              conv => cbv
              refine ⟨?_, ?_⟩
              · refine den_call e_i64 [(e_sl 1 e_u8) l9] h (fun _ h => hP ▸ v_blocks_number h) (.cons _ _ _ _ (.same _) .nil) rfl rfl (fun _ => rfl) fun r12 _ h => ?_
                conv => cbv
                refine .mk ?_
                conv => cbv
                refine .mk ?_
                conv => cbv
                refine den_br h (fun _ h => ?_) (fun _ h => ?_)
                · conv => cbv
                  cases h
                  conv => cbv
                  refine .mk [(10002, 10002, false), (10003, 10003, false), (10004, 10004, false), (10036, 10036, false)] [] rfl rfl ?_ ?_
                  · conv => cbv
                    exact ⟨.same _, .same _, .same _, .arr _ _ _ _ _ _ rfl, trivial⟩
                  · conv => cbv
                    exact .cons _ _ _ _ (.same _) .nil
                · conv => cbv
                  refine den_app_own e_blocks_Point (xs := [(⟨r10, r11, r12⟩ : blocks_Point)]) h rfl (News.sls (.cons _ _ _ _ (VEq.of_lepl (.cons _ _ _ _ (.int _ _ _ rfl) (.cons _ _ _ _ (.int _ _ _ rfl) (.cons _ _ _ _ (.int _ _ _ rfl) .nil))) rfl) .nil)) fun l13 _ h => ?_
                  conv => cbv
                  cases h
                  conv => cbv
                  refine .mk [(10002, 10002, false), (10003, 10003, false), (10004, 10004, false), (10036, 10036, false)] [] rfl rfl ?_ ?_
                  · conv => cbv
                    exact ⟨.same _, .same _, .same _, .arr _ _ _ _ _ _ rfl, trivial⟩
                  · conv => cbv
                    exact .cons _ _ _ _ (.same _) .nil
              · refine den_call e_i64 [(e_sl 1 e_u8) l9] h (fun _ h => hP ▸ v_blocks_number h) (.cons _ _ _ _ (.same _) .nil) rfl rfl (fun _ => rfl) fun r14 _ h => ?_
                conv => cbv
                refine .mk ?_
                conv => cbv
                refine .mk ?_
                conv => cbv
                refine den_br h (fun _ h => ?_) (fun _ h => ?_)
                · conv => cbv
                  cases h
                  conv => cbv
                  refine .mk [(10002, 10002, false), (10003, 10003, false), (10004, 10004, false), (10036, 10036, false)] [] rfl rfl ?_ ?_
                  · conv => cbv
                    exact ⟨.same _, .same _, .same _, .arr _ _ _ _ _ _ rfl, trivial⟩
                  · conv => cbv
                    exact .cons _ _ _ _ (.same _) .nil
                · conv => cbv
                  refine den_app_own e_blocks_Point (xs := [(⟨r10, r11, r14⟩ : blocks_Point)]) h rfl (News.sls (.cons _ _ _ _ (VEq.of_lepl (.cons _ _ _ _ (.int _ _ _ rfl) (.cons _ _ _ _ (.int _ _ _ rfl) (.cons _ _ _ _ (.int _ _ _ rfl) .nil))) rfl) .nil)) fun l15 _ h => ?_
                  conv => cbv
                  cases h
                  conv => cbv
                  refine .mk [(10002, 10002, false), (10003, 10003, false), (10004, 10004, false), (10036, 10036, false)] [] rfl rfl ?_ ?_
                  · conv => cbv
                    exact ⟨.same _, .same _, .same _, .arr _ _ _ _ _ _ rfl, trivial⟩
                  · conv => cbv
                    exact .cons _ _ _ _ (.same _) .nil
            · refine den_call e_i64 [(e_sl 1 e_u8) l8] h (fun _ h => hP ▸ v_blocks_number h) (.cons _ _ _ _ (.same _) .nil) rfl rfl (fun _ => rfl) fun r16 _ h => ?_
              conv => cbv
              refine den_call e_i64 [(e_sl 1 e_u8) l9] h (fun _ h => hP ▸ v_blocks_number h) (.cons _ _ _ _ (.same _) .nil) rfl rfl (fun _ => rfl) fun r17 _ h => ?_
              conv => cbv
              refine .mk ?_
              conv => cbv
              refine .mk ?_
              conv => cbv
              refine den_br h (fun _ h => ?_) (fun _ h => ?_)
              · conv => cbv
                cases h
                conv => cbv
                refine .mk [(10002, 10002, false), (10003, 10003, false), (10004, 10004, false), (10036, 10036, false)] [] rfl rfl ?_ ?_
                · conv => cbv
                  exact ⟨.same _, .same _, .same _, .arr _ _ _ _ _ _ rfl, trivial⟩
                · conv => cbv
                  exact .cons _ _ _ _ (.same _) .nil
              · conv => cbv
                refine den_app_own e_blocks_Point (xs := [(⟨r10, r16, r17⟩ : blocks_Point)]) h rfl (News.sls (.cons _ _ _ _ (VEq.of_lepl (.cons _ _ _ _ (.int _ _ _ rfl) (.cons _ _ _ _ (.int _ _ _ rfl) (.cons _ _ _ _ (.int _ _ _ rfl) .nil))) rfl) .nil)) fun l18 _ h => ?_
                conv => cbv
                cases h
                conv => cbv
                refine .mk [(10002, 10002, false), (10003, 10003, false), (10004, 10004, false), (10036, 10036, false)] [] rfl rfl ?_ ?_
                · conv => cbv
                  exact ⟨.same _, .same _, .same _, .arr _ _ _ _ _ _ rfl, trivial⟩
                · conv => cbv
                  exact .cons _ _ _ _ (.same _) .nil
          · refine den_call e_i64 [(e_sl 1 e_u8) l7] h (fun _ h => hP ▸ v_blocks_number h) (.cons _ _ _ _ (.same _) .nil) rfl rfl (fun _ => rfl) fun r19 _ h => ?_
            conv => cbv
            refine den_call e_i64 [(e_sl 1 e_u8) l8] h (fun _ h => hP ▸ v_blocks_number h) (.cons _ _ _ _ (.same _) .nil) rfl rfl (fun _ => rfl) fun r20 _ h => ?_
            conv => cbv
            refine den_call e_i64 [(e_sl 1 e_u8) l9] h (fun _ h => hP ▸ v_blocks_number h) (.cons _ _ _ _ (.same _) .nil) rfl rfl (fun _ => rfl) fun r21 _ h => ?_
            conv => cbv
            refine .mk ?_
            conv => cbv
            refine .mk ?_
            conv => cbv
            refine den_br h (fun _ h => ?_) (fun _ h => ?_)
            · conv => cbv
              cases h
              conv => cbv
              refine .mk [(10002, 10002, false), (10003, 10003, false), (10004, 10004, false), (10036, 10036, false)] [] rfl rfl ?_ ?_
              · conv => cbv
                exact ⟨.same _, .same _, .same _, .arr _ _ _ _ _ _ rfl, trivial⟩
              · conv => cbv
                exact .cons _ _ _ _ (.same _) .nil
            · conv => cbv
              refine den_app_own e_blocks_Point (xs := [(⟨r19, r20, r21⟩ : blocks_Point)]) h rfl (News.sls (.cons _ _ _ _ (VEq.of_lepl (.cons _ _ _ _ (.int _ _ _ rfl) (.cons _ _ _ _ (.int _ _ _ rfl) (.cons _ _ _ _ (.int _ _ _ rfl) .nil))) rfl) .nil)) fun l22 _ h => ?_
              conv => cbv
              cases h
              conv => cbv
              refine .mk [(10002, 10002, false), (10003, 10003, false), (10004, 10004, false), (10036, 10036, false)] [] rfl rfl ?_ ?_
              · conv => cbv
                exact ⟨.same _, .same _, .same _, .arr _ _ _ _ _ _ rfl, trivial⟩
              · conv => cbv
                exact .cons _ _ _ _ (.same _) .nil
        · conv => cbv
          exact ⟨⟨.same _, .same _, .same _, .same _, trivial⟩, .same _, .same _, .same _, trivial⟩
        · conv => cbv
          exact ⟨⟨.same _, .same _, .same _, .same _, trivial⟩, .same _, .same _, .same _, trivial⟩
      · unfold blocks_Points_K3 at h
        conv => cbv
        cases h
        exact .tup _ _ (.cons _ _ _ _ (.nil _ _ _ rfl) (.cons _ _ _ _ (.int _ _ _ rfl) .nil))
      · unfold blocks_Points_K2 at h
        conv => cbv
        refine den_join h fun j0 hj => ?_
        conv => cbv
        subst hj
        exact ⟨⟨.same _, .same _, .same _, .arr _ _ _ _ _ _ rfl, trivial⟩, .same _, .same _, .same _, trivial⟩
    · unfold blocks_Points_K1 at h
      conv => cbv
      refine den_lend e_i64 [(e_sl 3 e_blocks_Point) j1] h (fun _ h => hP ▸ v_blocks_order h) (.cons _ _ _ _ (.same _) .nil) (fun _ => rfl) fun r2 _ h => ?_
      conv => cbv
      refine den_br h (fun _ h => ?_) (fun _ h => ?_)
      · conv => cbv
        cases h
        exact .tup _ _ (.cons _ _ _ _ (.nil _ _ _ rfl) (.cons _ _ _ _ (.same _) .nil))
      · conv => cbv
        cases h
        exact .tup _ _ (.cons _ _ _ _ (.same _) (.cons _ _ _ _ (.int _ _ _ rfl) .nil))
def T_jetsamlaw11_Bytes : Tab := [(5, ⟨.int .u8, 1, 1, [.int .u8 (.lit 0)]⟩), (35, ⟨.slice 5, 1, 24, [.nilsl]⟩)]
theorem T_jetsamlaw11_Bytes_ok : TabOk Try.prog T_jetsamlaw11_Bytes := by
  have h : T_jetsamlaw11_Bytes = tabOf Try.prog [5, 35] := by kernel_rfl
  rw [h]; exact tabOk_of (by kernel_rfl)
theorem v_jetsamlaw11_Bytes {y0 : List Int} {y1 : List Int} {r : Bool} (h : jetsamlaw11_Bytes y0 y1 = some r) : AVal Try.prog [] 19 [(e_sl 1 e_u8) y0, (e_sl 1 e_u8) y1] (e_bool r) := by
  refine aval_of (c := ⟨T_jetsamlaw11_Bytes, [], 26, [], []⟩) Try.func19 (by kernel_rfl) rfl rfl rfl T_jetsamlaw11_Bytes_ok (eqsOk_of (by kernel_rfl)) Try_mixed rfl fun P hP _ => ?_
  unfold jetsamlaw11_Bytes at h
  conv => cbv
  refine den_br h (fun _ h => ?_) (fun _ h => ?_)
  · conv => cbv
    cases h
    exact .bool _ _ rfl
  · conv => cbv
    refine den_cut (r := r) (fun j1 : Unit => ⟨[], [], []⟩) jetsamlaw11_Bytes_K1 ?_ (fun j1 h => ?_)
    · conv => cbv
      refine den_loop (jetsamlaw11_Bytes_L1 y0 y1) h (fun a2 : Int => ⟨[(0, .sl 1 e_u8 y0), (1, .sl 1 e_u8 y1), (5, .int .i64 (.v a2))], [], []⟩) ?_ (fun _ _ a2 x1 h hb1 hx1 => ?_)
      · intro j0 hj
        conv => cbv
        subst hj
        exact ⟨.same _, .same _, .int _ _ _ rfl, trivial⟩
      · unfold jetsamlaw11_Bytes_L1 at h
        conv => cbv
        refine den_br h (fun _ h => ?_) (fun _ h => ?_)
        · conv => cbv
          refine .mk (by kernel_rfl) ?_
          conv => cbv
          refine den_elem h fun p3 _ h => ?_
          conv => cbv
          refine .mk ?_
          conv => cbv
          refine den_elem h fun p4 _ h => ?_
          conv => cbv
          refine den_br h (fun _ h => ?_) (fun _ h => ?_)
          · conv => cbv
            replace h := den_out h hx1
            cases h
            exact .bool _ _ rfl
          · conv => cbv
            refine den_back h hb1 fun j0 hj => ?_
            conv => cbv
            subst hj
            exact ⟨.same _, .same _, .int _ _ _ rfl, trivial⟩
        · conv => cbv
          replace h := den_out h hx1
          refine den_join h fun j0 hj => ?_
          conv => cbv
          subst hj
          exact trivial
    · unfold jetsamlaw11_Bytes_K1 at h
      conv => cbv
      cases h
      exact .bool _ _ rfl
def T_jetsamlaw12_awake : Tab := [(3, ⟨.int .i64, 1, 8, [.int .i64 (.lit 0)]⟩), (5, ⟨.int .u8, 1, 1, [.int .u8 (.lit 0)]⟩), (27, ⟨.slice 32, 1, 24, [.nilsl]⟩), (32, ⟨.struct [(0, 3), (1, 3), (2, 3)], 3, 24, [.int .i64 (.lit 0), .int .i64 (.lit 0), .int .i64 (.lit 0)]⟩), (35, ⟨.slice 5, 1, 24, [.nilsl]⟩), (37, ⟨.struct [(0, 3), (1, 35)], 2, 32, [.int .i64 (.lit 0), .nilsl]⟩), (55, ⟨.slice 37, 1, 24, [.nilsl]⟩)]
theorem T_jetsamlaw12_awake_ok : TabOk Try.prog T_jetsamlaw12_awake := by
  have h : T_jetsamlaw12_awake = tabOf Try.prog [3, 5, 27, 32, 35, 37, 55] := by kernel_rfl
  rw [h]; exact tabOk_of (by kernel_rfl)
theorem v_jetsamlaw12_awake {r : Bool} (h : jetsamlaw12_awake = some r) : AVal Try.prog [] 14 [] (e_bool r) := by
  refine aval_of (c := ⟨T_jetsamlaw12_awake, [], 68, [], [(32, [.i, .i, .i])]⟩) Try.func14 (by kernel_rfl) rfl rfl rfl T_jetsamlaw12_awake_ok (eqsOk_of (by kernel_rfl)) Try_mixed rfl fun P hP _ => ?_
  unfold jetsamlaw12_awake at h
  conv => cbv
  refine den_call (fun r : blocks_Block × Int => .tup [e_blocks_Block r.1, e_i64 r.2]) [e_i64 (2 : Int)] h (fun _ h => hP ▸ v_blocks_Zeros h) (.cons _ _ _ _ (.int _ _ _ rfl) .nil) rfl rfl (fun _ => rfl) fun r1 _ h => ?_
  conv => cbv
  refine .mk ?_
  conv => cbv
  refine .mk ?_
  conv => cbv
  refine den_call (fun r : (List Int) × Int => .tup [(e_sl 1 e_u8) r.1, e_i64 r.2]) [(e_sl 2 e_blocks_Block) [r1.1]] h (fun _ h => hP ▸ v_blocks_Write h) (.cons _ _ _ _ (.sls (.cons _ _ _ _ (VEq.of_lepl (.cons _ _ _ _ (.same _) (.cons _ _ _ _ (.same _) .nil)) rfl) .nil)) .nil) rfl rfl (fun _ => rfl) fun r2 _ h => ?_
  conv => cbv
  refine den_cut (r := r) (fun j3 : (List Int) => ⟨[(2, .int .i64 (.v r1.2)), (3, .sl 1 e_u8 r2.1), (4, .int .i64 (.v r2.2)), (5, .osl 26)], [(26, .arr false 5 1 e_u8 j3)], []⟩) (jetsamlaw12_awake_K1 r1 r2) ?_ (fun j3 h => ?_)
  · conv => cbv
    refine den_loop (jetsamlaw12_awake_L2 r1 r2) h (fun a10 : Int × (List Int) => ⟨[(2, .int .i64 (.v r1.2)), (3, .sl 1 e_u8 r2.1), (4, .int .i64 (.v r2.2)), (5, .osl 26), (6, .int .i64 (.v a10.1))], [(26, .arr false 5 1 e_u8 a10.2)], []⟩) ?_ (fun _ _ a10 x1 h hb1 hx1 => ?_)
    · intro j0 hj
      conv => cbv
      subst hj
      exact ⟨⟨.arr _ _ _ _ _ _ rfl, trivial⟩, .same _, .same _, .same _, .own _ _ _ _ _ _ rfl rfl, .int _ _ _ rfl, trivial⟩
    · unfold jetsamlaw12_awake_L2 at h
      conv => cbv
      refine den_br h (fun _ h => ?_) (fun _ h => ?_)
      · conv => cbv
        refine den_app_own e_u8 (xs := [(0 : Int)]) h rfl (News.sls (.cons _ _ _ _ (VEq.of_lepl (.cons _ _ _ _ (.int _ _ _ rfl) .nil) rfl) .nil)) fun l11 _ h => ?_
        conv => cbv
        refine den_back h hb1 fun j0 hj => ?_
        conv => cbv
        subst hj
        exact ⟨⟨.arr _ _ _ _ _ _ rfl, trivial⟩, .same _, .same _, .same _, .same _, .int _ _ _ rfl, trivial⟩
      · conv => cbv
        replace h := den_out h hx1
        refine den_join h fun j0 hj => ?_
        conv => cbv
        subst hj
        exact ⟨⟨.arr _ _ _ _ _ _ rfl, trivial⟩, .same _, .same _, .same _, .same _, trivial⟩
  · unfold jetsamlaw12_awake_K1 at h
    conv => cbv
    refine den_cut (r := r) (fun j4 : (List Int) => ⟨[(2, .int .i64 (.v r1.2)), (3, .sl 1 e_u8 r2.1), (4, .int .i64 (.v r2.2)), (5, .osl 26)], [(26, .arr false 5 1 e_u8 j4)], []⟩) (jetsamlaw12_awake_K2 r1 r2) ?_ (fun j4 h => ?_)
    · conv => cbv
      refine den_loop (jetsamlaw12_awake_L1 r1 r2) h (fun a8 : Int × (List Int) => ⟨[(2, .int .i64 (.v r1.2)), (3, .sl 1 e_u8 r2.1), (4, .int .i64 (.v r2.2)), (5, .osl 26), (7, .int .i64 (.v a8.1))], [(26, .arr false 5 1 e_u8 a8.2)], []⟩) ?_ (fun _ _ a8 x1 h hb1 hx1 => ?_)
      · intro j0 hj
        conv => cbv
        subst hj
        exact ⟨⟨.arr _ _ _ _ _ _ rfl, trivial⟩, .same _, .same _, .same _, .same _, .int _ _ _ rfl, trivial⟩
      · unfold jetsamlaw12_awake_L1 at h
        conv => cbv
        refine den_br h (fun _ h => ?_) (fun _ h => ?_)
        · conv => cbv
          refine den_chk h fun h => ?_
          conv => cbv
          refine den_chk h fun h => ?_
          conv => cbv
          refine den_estore (f := e_u8) (255 : Int) h (fun _ => CEqL.of_lepl (.cons _ _ _ _ (.int _ _ _ rfl) .nil) rfl) fun l9 _ h => ?_
          conv => cbv
          refine den_back h hb1 fun j0 hj => ?_
          conv => cbv
          subst hj
          exact ⟨⟨.arr _ _ _ _ _ _ rfl, trivial⟩, .same _, .same _, .same _, .same _, .int _ _ _ rfl, trivial⟩
        · conv => cbv
          replace h := den_out h hx1
          refine den_join h fun j0 hj => ?_
          conv => cbv
          subst hj
          exact ⟨⟨.arr _ _ _ _ _ _ rfl, trivial⟩, .same _, .same _, .same _, .same _, trivial⟩
    · unfold jetsamlaw12_awake_K2 at h
      conv => cbv
      refine .mk ?_
      conv => cbv
      refine den_call (fun r : (List blocks_Point) × Int => .tup [(e_sl 3 e_blocks_Point) r.1, e_i64 r.2]) [(e_sl 1 e_u8) j4] h (fun _ h => hP ▸ v_blocks_Points h) (.cons _ _ _ _ (.same _) .nil) rfl rfl (fun _ => rfl) fun r5 _ h => ?_
      conv => cbv
      refine .mk ?_
      conv => cbv
      refine .mk ?_
      conv => cbv
      refine den_br h (fun _ h => ?_) (fun _ h => ?_)
      · conv => cbv
        refine den_call e_bool [(e_sl 1 e_u8) r2.1, (e_sl 1 e_u8) [(129 : Int), (0 : Int), (0 : Int), (2 : Int), (0 : Int), (0 : Int)]] h (fun _ h => hP ▸ v_jetsamlaw11_Bytes h) (.cons _ _ _ _ (.same _) (.cons _ _ _ _ (.sls (.cons _ _ _ _ (VEq.of_lepl (.cons _ _ _ _ (.int _ _ _ rfl) .nil) rfl) (.cons _ _ _ _ (VEq.of_lepl (.cons _ _ _ _ (.int _ _ _ rfl) .nil) rfl) (.cons _ _ _ _ (VEq.of_lepl (.cons _ _ _ _ (.int _ _ _ rfl) .nil) rfl) (.cons _ _ _ _ (VEq.of_lepl (.cons _ _ _ _ (.int _ _ _ rfl) .nil) rfl) (.cons _ _ _ _ (VEq.of_lepl (.cons _ _ _ _ (.int _ _ _ rfl) .nil) rfl) (.cons _ _ _ _ (VEq.of_lepl (.cons _ _ _ _ (.int _ _ _ rfl) .nil) rfl) .nil))))))) .nil)) rfl rfl (fun _ => rfl) fun r6 _ h => ?_
        conv => cbv
        refine .mk ?_
        conv => cbv
        refine .mk ?_
        conv => cbv
        refine den_br h (fun _ h => ?_) (fun _ h => ?_)
        · conv => cbv
          refine den_elem h fun p7 _ h => ?_
          conv => cbv
          refine .mk ?_
          conv => cbv
          cases h
          exact .bool _ _ rfl
        · conv => cbv
          refine .mk ?_
          conv => cbv
          cases h
          exact .bool _ _ rfl
      · conv => cbv
        refine .mk ?_
        conv => cbv
        refine .mk ?_
        conv => cbv
        refine .mk ?_
        conv => cbv
        cases h
        exact .bool _ _ rfl
def T_jetsamlaw12_two : Tab := []
theorem T_jetsamlaw12_two_ok : TabOk Try.prog T_jetsamlaw12_two := by
  have h : T_jetsamlaw12_two = tabOf Try.prog [] := by kernel_rfl
  rw [h]; exact tabOk_of (by kernel_rfl)
theorem v_jetsamlaw12_two {y0 : Int} {r : Int × Int × Bool} (h : jetsamlaw12_two y0 = some r) : AVal Try.prog [] 15 [e_i64 y0] (.tup [e_i64 r.1, e_i64 r.2.1, e_bool r.2.2]) := by
  refine aval_of (c := ⟨T_jetsamlaw12_two, [], 18, [], []⟩) Try.func15 (by kernel_rfl) rfl rfl rfl T_jetsamlaw12_two_ok (eqsOk_of (by kernel_rfl)) Try_mixed rfl fun P hP _ => ?_
  unfold jetsamlaw12_two at h
  conv => cbv
  refine .mk ?_
  conv => cbv
  refine .mk ?_
  conv => cbv
  cases h
  exact .tup _ _ (.cons _ _ _ _ (.int _ _ _ rfl) (.cons _ _ _ _ (.int _ _ _ rfl) (.cons _ _ _ _ (.bool _ _ rfl) .nil)))
def T_blocks_Seekable : Tab := [(3, ⟨.int .i64, 1, 8, [.int .i64 (.lit 0)]⟩), (27, ⟨.slice 32, 1, 24, [.nilsl]⟩), (30, ⟨.fn, 1, 8, [.nilfn]⟩), (32, ⟨.struct [(0, 3), (1, 3), (2, 3)], 3, 24, [.int .i64 (.lit 0), .int .i64 (.lit 0), .int .i64 (.lit 0)]⟩)]
theorem T_blocks_Seekable_ok : TabOk Try.prog T_blocks_Seekable := by
  have h : T_blocks_Seekable = tabOf Try.prog [3, 27, 30, 32] := by kernel_rfl
  rw [h]; exact tabOk_of (by kernel_rfl)
theorem v_blocks_Seekable {y0 : List blocks_Point} {g1 : Int → Option (Int × Int × Bool)} (fid1 : Nat) (hg1 : ∀ z0 r, g1 z0 = some r → AVal Try.prog [] fid1 [e_i64 z0] (.tup [e_i64 r.1, e_i64 r.2.1, e_bool r.2.2])) {r : Int} (h : blocks_Seekable y0 g1 = some r) : AVal Try.prog [] 16 [(e_sl 3 e_blocks_Point) y0, (.fn fid1 [] [])] (e_i64 r) := by
  refine aval_of (c := ⟨T_blocks_Seekable, [], 44, [], []⟩) Try.func16 (by kernel_rfl) rfl rfl rfl T_blocks_Seekable_ok (eqsOk_of (by kernel_rfl)) Try_mixed rfl fun P hP _ => ?_
  unfold blocks_Seekable at h
  conv => cbv
  refine den_cut (r := r) (fun j1 : Unit => ⟨[], [], []⟩) blocks_Seekable_K1 ?_ (fun j1 h => ?_)
  · conv => cbv
    refine den_loop (blocks_Seekable_L1 y0 g1) h (fun a2 : Int => ⟨[(1, .fn fid1 [] []), (12, .sl 3 e_blocks_Point y0), (13, .int .i64 (.len y0)), (14, .int .i64 (.v a2))], [], []⟩) ?_ (fun _ _ a2 x1 h hb1 hx1 => ?_)
    · intro j0 hj
      conv => cbv
      subst hj
      exact ⟨.same _, .same _, .same _, .int _ _ _ rfl, trivial⟩
    · unfold blocks_Seekable_L1 at h
      conv => cbv
      refine den_br h (fun _ h => ?_) (fun _ h => ?_)
      · conv => cbv
        refine den_cut (r := x1) (fun j3 : Unit => ⟨[(1, .fn fid1 [] []), (12, .sl 3 e_blocks_Point y0), (13, .int .i64 (.len y0)), (14, .int .i64 (.v a2))], [], []⟩) (blocks_Seekable_K2 a2) ?_ (fun j3 h => ?_)
        · conv => cbv
          refine den_elem h fun p4 _ h => ?_
          conv => cbv
          refine den_br h (fun _ h => ?_) (fun _ h => ?_)
          · conv => cbv
            refine den_join h fun j0 hj => ?_
            conv => cbv
            subst hj
            exact ⟨.same _, .same _, .same _, .same _, trivial⟩
          · conv => cbv
            refine den_call (fun r : Int × Int × Bool => .tup [e_i64 r.1, e_i64 r.2.1, e_bool r.2.2]) [e_i64 p4.Sample] h (fun _ h => hP ▸ hg1 _ _ h) (.cons _ _ _ _ (.same _) .nil) rfl rfl (fun _ => rfl) fun r5 _ h => ?_
            conv => cbv
            refine .mk ?_
            conv => cbv
            refine .mk ?_
            conv => cbv
            refine .mk ?_
            conv => cbv
            refine den_br h (fun _ h => ?_) (fun _ h => ?_)
            · conv => cbv
              replace h := den_out h hx1
              cases h
              exact .int _ _ _ rfl
            · conv => cbv
              refine den_join h fun j0 hj => ?_
              conv => cbv
              subst hj
              exact ⟨.same _, .same _, .same _, .same _, trivial⟩
        · unfold blocks_Seekable_K2 at h
          conv => cbv
          refine den_back h hb1 fun j0 hj => ?_
          conv => cbv
          subst hj
          exact ⟨.same _, .same _, .same _, .int _ _ _ rfl, trivial⟩
      · conv => cbv
        replace h := den_out h hx1
        refine den_join h fun j0 hj => ?_
        conv => cbv
        subst hj
        exact trivial
  · unfold blocks_Seekable_K1 at h
    conv => cbv
    cases h
    exact .int _ _ _ rfl
def T_blocks_Seekable_nil1 : Tab := [(30, ⟨.fn, 1, 8, [.nilfn]⟩)]
theorem T_blocks_Seekable_nil1_ok : TabOk Try.prog T_blocks_Seekable_nil1 := by
  have h : T_blocks_Seekable_nil1 = tabOf Try.prog [30] := by kernel_rfl
  rw [h]; exact tabOk_of (by kernel_rfl)
theorem v_blocks_Seekable_nil1 {y0 : List blocks_Point} {r : Int} (h : blocks_Seekable_nil1 y0 = some r) : AVal Try.prog [] 16 [(e_sl 3 e_blocks_Point) y0, .nilfn] (e_i64 r) := by
  refine aval_of (c := ⟨T_blocks_Seekable_nil1, [], 44, [], []⟩) Try.func16 (by kernel_rfl) rfl rfl rfl T_blocks_Seekable_nil1_ok (eqsOk_of (by kernel_rfl)) Try_mixed rfl fun P hP _ => ?_
  unfold blocks_Seekable_nil1 at h
  conv => cbv
  cases h
  exact .int _ _ _ rfl
def T_jetsamlaw12_BlocksSeeks : Tab := [(3, ⟨.int .i64, 1, 8, [.int .i64 (.lit 0)]⟩), (27, ⟨.slice 32, 1, 24, [.nilsl]⟩), (32, ⟨.struct [(0, 3), (1, 3), (2, 3)], 3, 24, [.int .i64 (.lit 0), .int .i64 (.lit 0), .int .i64 (.lit 0)]⟩)]
theorem T_jetsamlaw12_BlocksSeeks_ok : TabOk Try.prog T_jetsamlaw12_BlocksSeeks := by
  have h : T_jetsamlaw12_BlocksSeeks = tabOf Try.prog [3, 27, 32] := by kernel_rfl
  rw [h]; exact tabOk_of (by kernel_rfl)
theorem v_jetsamlaw12_BlocksSeeks {y0 : List blocks_Point} {r : Bool} (h : jetsamlaw12_BlocksSeeks y0 = some r) : AVal Try.prog [] 4 [(e_sl 3 e_blocks_Point) y0] (e_bool r) := by
  refine aval_of (c := ⟨T_jetsamlaw12_BlocksSeeks, [], 68, [], []⟩) Try.func4 (by kernel_rfl) rfl rfl rfl T_jetsamlaw12_BlocksSeeks_ok (eqsOk_of (by kernel_rfl)) Try_mixed rfl fun P hP _ => ?_
  unfold jetsamlaw12_BlocksSeeks at h
  conv => cbv
  refine den_br h (fun _ h => ?_) (fun _ h => ?_)
  · conv => cbv
    refine den_call e_bool [] h (fun _ h => hP ▸ v_jetsamlaw12_awake h) .nil rfl rfl (fun _ => rfl) fun r1 _ h => ?_
    conv => cbv
    cases h
    exact .same _
  · conv => cbv
    refine den_cut (r := r) (fun j2 : Int => ⟨[(0, .sl 3 e_blocks_Point y0), (3, .int .i64 (.v j2))], [], []⟩) (jetsamlaw12_BlocksSeeks_K1 y0) ?_ (fun j2 h => ?_)
    · conv => cbv
      refine den_loop (jetsamlaw12_BlocksSeeks_L1 y0) h (fun a6 : Int × Int => ⟨[(0, .sl 3 e_blocks_Point y0), (3, .int .i64 (.v a6.1)), (4, .int .i64 (.v a6.2))], [], []⟩) ?_ (fun _ _ a6 x1 h hb1 hx1 => ?_)
      · intro j0 hj
        conv => cbv
        subst hj
        exact ⟨.same _, .int _ _ _ rfl, .int _ _ _ rfl, trivial⟩
      · unfold jetsamlaw12_BlocksSeeks_L1 at h
        conv => cbv
        refine den_br h (fun _ h => ?_) (fun _ h => ?_)
        · conv => cbv
          refine den_cut (r := x1) (fun j7 : Int => ⟨[(0, .sl 3 e_blocks_Point y0), (3, .int .i64 (.v j7)), (4, .int .i64 (.v a6.2))], [], []⟩) (jetsamlaw12_BlocksSeeks_K2 a6) ?_ (fun j7 h => ?_)
          · conv => cbv
            refine .mk ?_
            conv => cbv
            refine den_elem h fun p8 _ h => ?_
            conv => cbv
            refine den_call (fun r : Int × Int × Bool => .tup [e_i64 r.1, e_i64 r.2.1, e_bool r.2.2]) [e_i64 p8.Sample] h (fun _ h => hP ▸ v_jetsamlaw12_two h) (.cons _ _ _ _ (.same _) .nil) rfl rfl (fun _ => rfl) fun r9 _ h => ?_
            conv => cbv
            refine .mk ?_
            conv => cbv
            refine den_elem h fun p10 _ h => ?_
            conv => cbv
            refine .mk ?_
            conv => cbv
            refine .mk ?_
            conv => cbv
            refine den_br h (fun _ h => ?_) (fun _ h => ?_)
            · conv => cbv
              refine den_br h (fun _ h => ?_) (fun _ h => ?_)
              · conv => cbv
                refine .mk ?_
                conv => cbv
                refine .mk ?_
                conv => cbv
                refine den_join h fun j0 hj => ?_
                conv => cbv
                subst hj
                exact ⟨.same _, .int _ _ _ rfl, .same _, trivial⟩
              · conv => cbv
                refine den_elem h fun p11 _ h => ?_
                conv => cbv
                refine .mk ?_
                conv => cbv
                refine .mk ?_
                conv => cbv
                refine den_br h (fun _ h => ?_) (fun _ h => ?_)
                · conv => cbv
                  refine den_join h fun j0 hj => ?_
                  conv => cbv
                  subst hj
                  exact ⟨.same _, .int _ _ _ rfl, .same _, trivial⟩
                · conv => cbv
                  refine den_elem h fun p12 _ h => ?_
                  conv => cbv
                  refine den_br h (fun _ h => ?_) (fun _ h => ?_)
                  · conv => cbv
                    refine den_join h fun j0 hj => ?_
                    conv => cbv
                    subst hj
                    exact ⟨.same _, .int _ _ _ rfl, .same _, trivial⟩
                  · conv => cbv
                    refine den_join h fun j0 hj => ?_
                    conv => cbv
                    subst hj
                    exact ⟨.same _, .int _ _ _ rfl, .same _, trivial⟩
            · conv => cbv
              refine .mk ?_
              conv => cbv
              refine .mk ?_
              conv => cbv
              refine den_join h fun j0 hj => ?_
              conv => cbv
              subst hj
              exact ⟨.same _, .int _ _ _ rfl, .same _, trivial⟩
          · unfold jetsamlaw12_BlocksSeeks_K2 at h
            conv => cbv
            refine den_back h hb1 fun j0 hj => ?_
            conv => cbv
            subst hj
            exact ⟨.same _, .int _ _ _ rfl, .int _ _ _ rfl, trivial⟩
        · conv => cbv
          replace h := den_out h hx1
          refine den_join h fun j0 hj => ?_
          conv => cbv
          subst hj
          exact ⟨.same _, .int _ _ _ rfl, trivial⟩
    · unfold jetsamlaw12_BlocksSeeks_K1 at h
      conv => cbv
      refine .mk ?_
      conv => cbv
      refine den_call e_i64 [(e_sl 3 e_blocks_Point) y0, .fn 15 [] []] h (fun _ h => hP ▸ v_blocks_Seekable _ (fun _ _ h => v_jetsamlaw12_two h) h) (.cons _ _ _ _ (.same _) (.cons _ _ _ _ (.same _) .nil)) rfl rfl (fun _ => rfl) fun r3 _ h => ?_
      conv => cbv
      refine den_br h (fun _ h => ?_) (fun _ h => ?_)
      · conv => cbv
        refine den_call e_i64 [(e_sl 3 e_blocks_Point) y0, .nilfn] h (fun _ h => hP ▸ v_blocks_Seekable_nil1 h) (.cons _ _ _ _ (.same _) (.cons _ _ _ _ (.same _) .nil)) rfl rfl (fun _ => rfl) fun r4 _ h => ?_
        conv => cbv
        refine .mk ?_
        conv => cbv
        refine den_br h (fun _ h => ?_) (fun _ h => ?_)
        · conv => cbv
          refine den_call e_bool [] h (fun _ h => hP ▸ v_jetsamlaw12_awake h) .nil rfl rfl (fun _ => rfl) fun r5 _ h => ?_
          conv => cbv
          cases h
          exact .same _
        · conv => cbv
          cases h
          exact .bool _ _ rfl
      · conv => cbv
        refine .mk ?_
        conv => cbv
        cases h
        exact .bool _ _ rfl
def T_slices_Clone_sbyte_byte : Tab := [(5, ⟨.int .u8, 1, 1, [.int .u8 (.lit 0)]⟩), (35, ⟨.slice 5, 1, 24, [.nilsl]⟩)]
theorem T_slices_Clone_sbyte_byte_ok : TabOk Try.prog T_slices_Clone_sbyte_byte := by
  have h : T_slices_Clone_sbyte_byte = tabOf Try.prog [5, 35] := by kernel_rfl
  rw [h]; exact tabOk_of (by kernel_rfl)
theorem v_slices_Clone_sbyte_byte {y0 : List Int} {r : List Int} (h : slices_Clone_sbyte_byte y0 = some r) : AVal Try.prog [] 33 [(e_sl 1 e_u8) y0] ((e_sl 1 e_u8) r) := by
  refine aval_of (c := ⟨T_slices_Clone_sbyte_byte, [], 8, [], []⟩) Try.func33 (by kernel_rfl) rfl rfl rfl T_slices_Clone_sbyte_byte_ok (eqsOk_of (by kernel_rfl)) Try_mixed rfl fun P hP _ => ?_
  unfold slices_Clone_sbyte_byte at h
  conv => cbv
  refine den_nil h (fun h hl => ?_) (fun h => ?_)
  · replace h : (some ([] : List Int)) = some r := by
      simp only [hl] at h
      simpa [app] using h
    conv => cbv
    cases h
    exact .nil _ _ _ rfl
  · conv => cbv
    refine .own e_u8 ?_
    conv => cbv
    refine den_app_own e_u8 (xs := y0) h rfl (News.map rfl) fun l1 _ h => ?_
    conv => cbv
    cases h
    exact .same _
def T_blocks_Name : Tab := [(3, ⟨.int .i64, 1, 8, [.int .i64 (.lit 0)]⟩), (5, ⟨.int .u8, 1, 1, [.int .u8 (.lit 0)]⟩), (9, ⟨.str, 1, 16, [.str (.lit [])]⟩), (35, ⟨.slice 5, 1, 24, [.nilsl]⟩), (37, ⟨.struct [(0, 3), (1, 35)], 2, 32, [.int .i64 (.lit 0), .nilsl]⟩)]
theorem T_blocks_Name_ok : TabOk Try.prog T_blocks_Name := by
  have h : T_blocks_Name = tabOf Try.prog [3, 5, 9, 35, 37] := by kernel_rfl
  rw [h]; exact tabOk_of (by kernel_rfl)
theorem v_blocks_Name {y0 : blocks_Block} {r : (List UInt8) × (List Int) × Int} (h : blocks_Name y0 = some r) : AVal Try.prog [] 18 [e_blocks_Block y0] (.tup [e_str r.1, (e_sl 1 e_u8) r.2.1, e_i64 r.2.2]) := by
  refine aval_of (c := ⟨T_blocks_Name, [], 22, [], []⟩) Try.func18 (by kernel_rfl) rfl rfl rfl T_blocks_Name_ok (eqsOk_of (by kernel_rfl)) Try_mixed rfl fun P hP _ => ?_
  unfold blocks_Name at h
  conv => cbv
  refine den_br h (fun _ h => ?_) (fun _ h => ?_)
  · conv => cbv
    cases h
    exact .tup _ _ (.cons _ _ _ _ (.str _ _ rfl) (.cons _ _ _ _ (.nil _ _ _ rfl) (.cons _ _ _ _ (.int _ _ _ rfl) .nil)))
  · conv => cbv
    refine den_br h (fun _ h => ?_) (fun _ h => ?_)
    · conv => cbv
      cases h
      exact .tup _ _ (.cons _ _ _ _ (.str _ _ rfl) (.cons _ _ _ _ (.nil _ _ _ rfl) (.cons _ _ _ _ (.int _ _ _ rfl) .nil)))
    · conv => cbv
      refine .mk (by kernel_rfl) ?_
      conv => cbv
      refine den_sub h fun l1 _ h => ?_
      conv => cbv
      refine .mk ?_
      conv => cbv
      refine den_sub h fun l2 _ h => ?_
      conv => cbv
      refine ⟨?_, ?_⟩
      · refine den_str (fun t3 => ((slices_Clone_sbyte_byte l2).bind fun r4 => some (t3, r4, (0 : Int)))) e_u8 l1 (News.map rfl) (fun _ => rfl) h fun t3 _ h => ?_
        conv => cbv
        refine den_call (e_sl 1 e_u8) [(e_sl 1 e_u8) l2] h (fun _ h => hP ▸ v_slices_Clone_sbyte_byte h) (.cons _ _ _ _ (.same _) .nil) rfl rfl (fun _ => rfl) fun r4 _ h => ?_
        conv => cbv
        cases h
        exact .tup _ _ (.cons _ _ _ _ (.same _) (.cons _ _ _ _ (.same _) (.cons _ _ _ _ (.int _ _ _ rfl) .nil)))
      · refine den_call (e_sl 1 e_u8) [(e_sl 1 e_u8) l2] h (fun _ h => hP ▸ v_slices_Clone_sbyte_byte h) (.cons _ _ _ _ (.same _) .nil) rfl rfl (fun _ => rfl) fun r5 _ h => ?_
        conv => cbv
        refine den_str (fun t6 => (some (t6, r5, (0 : Int)))) e_u8 l1 (News.map rfl) (fun _ => rfl) h fun t6 _ h => ?_
        conv => cbv
        cases h
        exact .tup _ _ (.cons _ _ _ _ (.same _) (.cons _ _ _ _ (.same _) (.cons _ _ _ _ (.int _ _ _ rfl) .nil)))
def T_jetsamlaw12_BlocksOthers : Tab := [(3, ⟨.int .i64, 1, 8, [.int .i64 (.lit 0)]⟩), (5, ⟨.int .u8, 1, 1, [.int .u8 (.lit 0)]⟩), (9, ⟨.str, 1, 16, [.str (.lit [])]⟩), (35, ⟨.slice 5, 1, 24, [.nilsl]⟩), (37, ⟨.struct [(0, 3), (1, 35)], 2, 32, [.int .i64 (.lit 0), .nilsl]⟩)]
theorem T_jetsamlaw12_BlocksOthers_ok : TabOk Try.prog T_jetsamlaw12_BlocksOthers := by
  have h : T_jetsamlaw12_BlocksOthers = tabOf Try.prog [3, 5, 9, 35, 37] := by kernel_rfl
  rw [h]; exact tabOk_of (by kernel_rfl)
theorem v_jetsamlaw12_BlocksOthers {y0 : Int} {y1 : blocks_Block} {r : Bool} (h : jetsamlaw12_BlocksOthers y0 y1 = some r) : AVal Try.prog [] 5 [e_i64 y0, e_blocks_Block y1] (e_bool r) := by
  refine aval_of (c := ⟨T_jetsamlaw12_BlocksOthers, [], 134, [], []⟩) Try.func5 (by kernel_rfl) rfl rfl rfl T_jetsamlaw12_BlocksOthers_ok (eqsOk_of (by kernel_rfl)) Try_mixed rfl fun P hP _ => ?_
  unfold jetsamlaw12_BlocksOthers at h
  conv => cbv
  refine .mk ?_
  conv => cbv
  refine .mk ?_
  conv => cbv
  refine den_br h (fun _ h => ?_) (fun _ h => ?_)
  · conv => cbv
    refine den_call e_bool [] h (fun _ h => hP ▸ v_jetsamlaw12_awake h) .nil rfl rfl (fun _ => rfl) fun r1 _ h => ?_
    conv => cbv
    cases h
    exact .same _
  · conv => cbv
    refine den_call (fun r : blocks_Block × Int => .tup [e_blocks_Block r.1, e_i64 r.2]) [e_i64 y0] h (fun _ h => hP ▸ v_blocks_Zeros h) (.cons _ _ _ _ (.same _) .nil) rfl rfl (fun _ => rfl) fun r2 _ h => ?_
    conv => cbv
    refine .mk ?_
    conv => cbv
    refine den_cut (r := r) (fun j3 : Unit => ⟨[(3, .ptr 3 0)], [(3, .var [.int .i64 (.v y1.m_Type), .sl 1 e_u8 y1.Data])], []⟩) (jetsamlaw12_BlocksOthers_K1 y1) ?_ (fun j3 h => ?_)
    · conv => cbv
      refine .mk ?_
      conv => cbv
      refine den_br h (fun _ h => ?_) (fun _ h => ?_)
      · conv => cbv
        refine .mk ?_
        conv => cbv
        refine .mk ?_
        conv => cbv
        refine den_br h (fun _ h => ?_) (fun _ h => ?_)
        · conv => cbv
          cases h
          exact .bool _ _ rfl
        · conv => cbv
          refine den_join h fun j0 hj => ?_
          conv => cbv
          subst hj
          exact ⟨⟨.same _, trivial⟩, .same _, trivial⟩
      · conv => cbv
        refine .mk ?_
        conv => cbv
        refine .mk ?_
        conv => cbv
        refine den_br h (fun _ h => ?_) (fun _ h => ?_)
        · conv => cbv
          cases h
          exact .bool _ _ rfl
        · conv => cbv
          refine den_loop (jetsamlaw12_BlocksOthers_L1 y0 y1 r2) h (fun a12 : Int => ⟨[(0, .int .i64 (.v y0)), (3, .ptr 3 0), (5, .ptr 5 0), (7, .int .i64 (.v a12))], [(3, .var [.int .i64 (.v y1.m_Type), .sl 1 e_u8 y1.Data]), (5, .var [.int .i64 (.v r2.1.m_Type), .sl 1 e_u8 r2.1.Data])], []⟩) ?_ (fun _ _ a12 x1 h hb1 hx1 => ?_)
          · intro j0 hj
            conv => cbv
            subst hj
            exact ⟨⟨.same _, .same _, trivial⟩, .same _, .same _, .same _, .int _ _ _ rfl, trivial⟩
          · unfold jetsamlaw12_BlocksOthers_L1 at h
            conv => cbv
            refine den_br h (fun _ h => ?_) (fun _ h => ?_)
            · conv => cbv
              refine .mk ?_
              conv => cbv
              refine den_elem h fun p13 _ h => ?_
              conv => cbv
              refine den_br h (fun _ h => ?_) (fun _ h => ?_)
              · conv => cbv
                replace h := den_out h hx1
                cases h
                exact .bool _ _ rfl
              · conv => cbv
                refine den_back h hb1 fun j0 hj => ?_
                conv => cbv
                subst hj
                exact ⟨⟨.same _, .same _, trivial⟩, .same _, .same _, .same _, .int _ _ _ rfl, trivial⟩
            · conv => cbv
              replace h := den_out h hx1
              refine den_join h fun j0 hj => ?_
              conv => cbv
              subst hj
              exact ⟨⟨.same _, trivial⟩, .same _, trivial⟩
    · unfold jetsamlaw12_BlocksOthers_K1 at h
      conv => cbv
      refine den_call (fun r : (List UInt8) × (List Int) × Int => .tup [e_str r.1, (e_sl 1 e_u8) r.2.1, e_i64 r.2.2]) [e_blocks_Block y1] h (fun _ h => hP ▸ v_blocks_Name h) (.cons _ _ _ _ (.same _) .nil) rfl rfl (fun _ => rfl) fun r4 _ h => ?_
      conv => cbv
      refine .mk ?_
      conv => cbv
      refine den_br h (fun _ h => ?_) (fun _ h => ?_)
      · conv => cbv
        refine .mk ?_
        conv => cbv
        refine .mk ?_
        conv => cbv
        refine den_br h (fun _ h => ?_) (fun _ h => ?_)
        · conv => cbv
          refine den_call e_bool [] h (fun _ h => hP ▸ v_jetsamlaw12_awake h) .nil rfl rfl (fun _ => rfl) fun r5 _ h => ?_
          conv => cbv
          cases h
          exact .same _
        · conv => cbv
          cases h
          exact .bool _ _ rfl
      · conv => cbv
        refine den_br h (fun _ h => ?_) (fun _ h => ?_)
        · conv => cbv
          refine .mk ?_
          conv => cbv
          refine .mk ?_
          conv => cbv
          refine den_br h (fun _ h => ?_) (fun _ h => ?_)
          · conv => cbv
            refine den_call e_bool [] h (fun _ h => hP ▸ v_jetsamlaw12_awake h) .nil rfl rfl (fun _ => rfl) fun r6 _ h => ?_
            conv => cbv
            cases h
            exact .same _
          · conv => cbv
            cases h
            exact .bool _ _ rfl
        · conv => cbv
          refine .mk ?_
          conv => cbv
          refine den_sub h fun l7 _ h => ?_
          conv => cbv
          refine den_str (fun t8 => (if (r4.1 == t8) = true then   (sub y1.Data 4 (y1.Data.length : Int)).bind fun l9 =>   (jetsamlaw11_Bytes r4.2.1 l9).bind fun r10 =>   if (if r10 = true then (r4.2.2 == 0) else false) = true then     (jetsamlaw12_awake).bind fun r11 =>     some r11   else     some false else   some false)) e_u8 l7 (News.map rfl) (fun _ => rfl) h fun t8 _ h => ?_
          conv => cbv
          refine .mk ?_
          conv => cbv
          refine den_br h (fun _ h => ?_) (fun _ h => ?_)
          · conv => cbv
            refine den_sub h fun l9 _ h => ?_
            conv => cbv
            refine den_call e_bool [(e_sl 1 e_u8) r4.2.1, (e_sl 1 e_u8) l9] h (fun _ h => hP ▸ v_jetsamlaw11_Bytes h) (.cons _ _ _ _ (.same _) (.cons _ _ _ _ (.same _) .nil)) rfl rfl (fun _ => rfl) fun r10 _ h => ?_
            conv => cbv
            refine .mk ?_
            conv => cbv
            refine den_br h (fun _ h => ?_) (fun _ h => ?_)
            · conv => cbv
              refine den_call e_bool [] h (fun _ h => hP ▸ v_jetsamlaw12_awake h) .nil rfl rfl (fun _ => rfl) fun r11 _ h => ?_
              conv => cbv
              cases h
              exact .same _
            · conv => cbv
              cases h
              exact .bool _ _ rfl
          · conv => cbv
            refine .mk ?_
            conv => cbv
            cases h
            exact .bool _ _ rfl
def T_slices_IndexFunc_sblocks_Point_blocks_Point : Tab := [(27, ⟨.slice 32, 1, 24, [.nilsl]⟩), (32, ⟨.struct [(0, 3), (1, 3), (2, 3)], 3, 24, [.int .i64 (.lit 0), .int .i64 (.lit 0), .int .i64 (.lit 0)]⟩)]
theorem T_slices_IndexFunc_sblocks_Point_blocks_Point_ok : TabOk Try.prog T_slices_IndexFunc_sblocks_Point_blocks_Point := by
  have h : T_slices_IndexFunc_sblocks_Point_blocks_Point = tabOf Try.prog [27, 32] := by kernel_rfl
  rw [h]; exact tabOk_of (by kernel_rfl)
theorem v_slices_IndexFunc_sblocks_Point_blocks_Point {y0 : List blocks_Point} {g1 : blocks_Point → Option Bool} (fid1 : Nat) (hg1 : ∀ z0 r, g1 z0 = some r → AVal Try.prog [] fid1 [e_blocks_Point z0] (e_bool r)) {r : Int} (h : slices_IndexFunc_sblocks_Point_blocks_Point y0 g1 = some r) : AVal Try.prog [] 45 [(e_sl 3 e_blocks_Point) y0, (.fn fid1 [] [])] (e_i64 r) := by
  refine aval_of (c := ⟨T_slices_IndexFunc_sblocks_Point_blocks_Point, [], 19, [], []⟩) Try.func45 (by kernel_rfl) rfl rfl rfl T_slices_IndexFunc_sblocks_Point_blocks_Point_ok (eqsOk_of (by kernel_rfl)) Try_mixed rfl fun P hP _ => ?_
  unfold slices_IndexFunc_sblocks_Point_blocks_Point at h
  conv => cbv
  refine den_cut (r := r) (fun j1 : Unit => ⟨[], [], []⟩) slices_IndexFunc_sblocks_Point_blocks_Point_K1 ?_ (fun j1 h => ?_)
  · conv => cbv
    refine den_loop (slices_IndexFunc_sblocks_Point_blocks_Point_L1 y0 g1) h (fun a2 : Int => ⟨[(0, .sl 3 e_blocks_Point y0), (1, .fn fid1 [] []), (7, .int .i64 (.len y0)), (8, .int .i64 (.v a2))], [], []⟩) ?_ (fun _ _ a2 x1 h hb1 hx1 => ?_)
    · intro j0 hj
      conv => cbv
      subst hj
      exact ⟨.same _, .same _, .same _, .int _ _ _ rfl, trivial⟩
    · unfold slices_IndexFunc_sblocks_Point_blocks_Point_L1 at h
      conv => cbv
      refine den_br h (fun _ h => ?_) (fun _ h => ?_)
      · conv => cbv
        refine .mk ?_
        conv => cbv
        refine den_elem h fun p3 _ h => ?_
        conv => cbv
        refine den_call e_bool [e_blocks_Point p3] h (fun _ h => hP ▸ hg1 _ _ h) (.cons _ _ _ _ (.same _) .nil) rfl rfl (fun _ => rfl) fun r4 _ h => ?_
        conv => cbv
        refine den_br h (fun _ h => ?_) (fun _ h => ?_)
        · conv => cbv
          replace h := den_out h hx1
          cases h
          exact .same _
        · conv => cbv
          refine den_back h hb1 fun j0 hj => ?_
          conv => cbv
          subst hj
          exact ⟨.same _, .same _, .same _, .int _ _ _ rfl, trivial⟩
      · conv => cbv
        replace h := den_out h hx1
        refine den_join h fun j0 hj => ?_
        conv => cbv
        subst hj
        exact trivial
  · unfold slices_IndexFunc_sblocks_Point_blocks_Point_K1 at h
    conv => cbv
    cases h
    exact .int _ _ _ rfl
def T_slices_ContainsFunc_sblocks_Point_blocks_Point : Tab := []
theorem T_slices_ContainsFunc_sblocks_Point_blocks_Point_ok : TabOk Try.prog T_slices_ContainsFunc_sblocks_Point_blocks_Point := by
  have h : T_slices_ContainsFunc_sblocks_Point_blocks_Point = tabOf Try.prog [] := by kernel_rfl
  rw [h]; exact tabOk_of (by kernel_rfl)
theorem v_slices_ContainsFunc_sblocks_Point_blocks_Point {y0 : List blocks_Point} {g1 : blocks_Point → Option Bool} (fid1 : Nat) (hg1 : ∀ z0 r, g1 z0 = some r → AVal Try.prog [] fid1 [e_blocks_Point z0] (e_bool r)) {r : Bool} (h : slices_ContainsFunc_sblocks_Point_blocks_Point y0 g1 = some r) : AVal Try.prog [] 34 [(e_sl 3 e_blocks_Point) y0, (.fn fid1 [] [])] (e_bool r) := by
  refine aval_of (c := ⟨T_slices_ContainsFunc_sblocks_Point_blocks_Point, [], 9, [], []⟩) Try.func34 (by kernel_rfl) rfl rfl rfl T_slices_ContainsFunc_sblocks_Point_blocks_Point_ok (eqsOk_of (by kernel_rfl)) Try_mixed rfl fun P hP _ => ?_
  unfold slices_ContainsFunc_sblocks_Point_blocks_Point at h
  conv => cbv
  refine den_call e_i64 [(e_sl 3 e_blocks_Point) y0, .fn fid1 [] []] h (fun _ h => hP ▸ v_slices_IndexFunc_sblocks_Point_blocks_Point _ hg1 h) (.cons _ _ _ _ (.same _) (.cons _ _ _ _ (.same _) .nil)) rfl rfl (fun _ => rfl) fun r1 _ h => ?_
  conv => cbv
  cases h
  exact .bool _ _ rfl
def T_blocks_WritePoints_c1 : Tab := [(3, ⟨.int .i64, 1, 8, [.int .i64 (.lit 0)]⟩), (32, ⟨.struct [(0, 3), (1, 3), (2, 3)], 3, 24, [.int .i64 (.lit 0), .int .i64 (.lit 0), .int .i64 (.lit 0)]⟩)]
theorem T_blocks_WritePoints_c1_ok : TabOk Try.prog T_blocks_WritePoints_c1 := by
  have h : T_blocks_WritePoints_c1 = tabOf Try.prog [3, 32] := by kernel_rfl
  rw [h]; exact tabOk_of (by kernel_rfl)
theorem v_blocks_WritePoints_c1 {y0 : blocks_Point} {r : Bool} (h : blocks_WritePoints_c1 y0 = some r) : AVal Try.prog [] 35 [e_blocks_Point y0] (e_bool r) := by
  refine aval_of (c := ⟨T_blocks_WritePoints_c1, [], 21, [], []⟩) Try.func35 (by kernel_rfl) rfl rfl rfl T_blocks_WritePoints_c1_ok (eqsOk_of (by kernel_rfl)) Try_mixed rfl fun P hP _ => ?_
  unfold blocks_WritePoints_c1 at h
  conv => cbv
  refine .mk ?_
  conv => cbv
  refine .mk ?_
  conv => cbv
  refine .mk ?_
  conv => cbv
  cases h
  exact .bool _ _ rfl
def T_blocks_WritePoints : Tab := [(3, ⟨.int .i64, 1, 8, [.int .i64 (.lit 0)]⟩), (27, ⟨.slice 32, 1, 24, [.nilsl]⟩), (32, ⟨.struct [(0, 3), (1, 3), (2, 3)], 3, 24, [.int .i64 (.lit 0), .int .i64 (.lit 0), .int .i64 (.lit 0)]⟩), (35, ⟨.slice 5, 1, 24, [.nilsl]⟩), (58, ⟨.slice 35, 1, 24, [.nilsl]⟩)]
theorem T_blocks_WritePoints_ok : TabOk Try.prog T_blocks_WritePoints := by
  have h : T_blocks_WritePoints = tabOf Try.prog [3, 27, 32, 35, 58] := by kernel_rfl
  rw [h]; exact tabOk_of (by kernel_rfl)
theorem v_blocks_WritePoints {y0 : List blocks_Point} {r : (List Int) × Int} (h : blocks_WritePoints y0 = some r) : AVal Try.prog [] 20 [(e_sl 3 e_blocks_Point) y0] (.tup [(e_sl 1 e_u8) r.1, e_i64 r.2]) := by
  refine aval_of (c := ⟨T_blocks_WritePoints, [], 39, [], []⟩) Try.func20 (by kernel_rfl) rfl rfl rfl T_blocks_WritePoints_ok (eqsOk_of (by kernel_rfl)) Try_mixed rfl fun P hP _ => ?_
  unfold blocks_WritePoints at h
  conv => cbv
  refine den_call e_bool [(e_sl 3 e_blocks_Point) y0, .fn 35 [] []] h (fun _ h => hP ▸ v_slices_ContainsFunc_sblocks_Point_blocks_Point _ (fun _ _ h => v_blocks_WritePoints_c1 h) h) (.cons _ _ _ _ (.same _) (.cons _ _ _ _ (.same _) .nil)) rfl rfl (fun _ => rfl) fun r1 _ h => ?_
  conv => cbv
  refine den_br h (fun _ h => ?_) (fun _ h => ?_)
  · conv => cbv
    cases h
    exact .tup _ _ (.cons _ _ _ _ (.nil _ _ _ rfl) (.cons _ _ _ _ (.int _ _ _ rfl) .nil))
  · conv => cbv
    refine den_call e_i64 [(e_sl 3 e_blocks_Point) y0] h (fun _ h => hP ▸ v_blocks_order h) (.cons _ _ _ _ (.same _) .nil) rfl rfl (fun _ => rfl) fun r2 _ h => ?_
    conv => cbv
    refine den_br h (fun _ h => ?_) (fun _ h => ?_)
    · conv => cbv
      cases h
      exact .tup _ _ (.cons _ _ _ _ (.nil _ _ _ rfl) (.cons _ _ _ _ (.same _) .nil))
    · conv => cbv
      refine den_br h (fun _ h => ?_) (fun _ h => ?_)
      · conv => cbv
        cases h
        exact .tup _ _ (.cons _ _ _ _ (.nil _ _ _ rfl) (.cons _ _ _ _ (.int _ _ _ rfl) .nil))
      · conv => cbv
        refine den_cut (r := r) (fun j3 : (List Int) => ⟨[(5, .sl 1 e_u8 j3)], [], []⟩) blocks_WritePoints_K1 ?_ (fun j3 h => ?_)
        · conv => cbv
          refine den_loop (blocks_WritePoints_L1 y0) h (fun a4 : (List Int) × Int => ⟨[(5, .sl 1 e_u8 a4.1), (19, .sl 3 e_blocks_Point y0), (20, .int .i64 (.len y0)), (21, .int .i64 (.v a4.2))], [], []⟩) ?_ (fun _ _ a4 x1 h hb1 hx1 => ?_)
          · intro j0 hj
            conv => cbv
            subst hj
            exact ⟨.nil _ _ _ rfl, .same _, .same _, .int _ _ _ rfl, trivial⟩
          · unfold blocks_WritePoints_L1 at h
            conv => cbv
            refine den_br h (fun _ h => ?_) (fun _ h => ?_)
            · conv => cbv
              refine den_elem h fun p5 _ h => ?_
              conv => cbv
              refine .mk (by kernel_rfl) ?_
              conv => cbv
              refine .mk ?_
              conv => cbv
              refine den_call (e_sl 1 e_u8) [e_i64 p5.Sample, e_i64 (8 : Int)] h (fun _ h => hP ▸ v_blocks_big h) (.cons _ _ _ _ (.same _) (.cons _ _ _ _ (.int _ _ _ rfl) .nil)) rfl rfl (fun _ => rfl) fun r6 _ h => ?_
              conv => cbv
              refine den_call (e_sl 1 e_u8) [e_i64 p5.Offset, e_i64 (8 : Int)] h (fun _ h => hP ▸ v_blocks_big h) (.cons _ _ _ _ (.same _) (.cons _ _ _ _ (.int _ _ _ rfl) .nil)) rfl rfl (fun _ => rfl) fun r7 _ h => ?_
              conv => cbv
              refine den_call (e_sl 1 e_u8) [e_i64 p5.Count, e_i64 (2 : Int)] h (fun _ h => hP ▸ v_blocks_big h) (.cons _ _ _ _ (.same _) (.cons _ _ _ _ (.int _ _ _ rfl) .nil)) rfl rfl (fun _ => rfl) fun r8 _ h => ?_
              conv => cbv
              refine .mk ?_
              conv => cbv
              refine den_call (e_sl 1 e_u8) [(e_sl 1 (e_sl 1 e_u8)) [a4.1, r6, r7, r8]] h (fun _ h => hP ▸ v_slices_Concat_sbyte_byte h) (.cons _ _ _ _ (.sls (.cons _ _ _ _ (VEq.of_lepl (.cons _ _ _ _ (.same _) .nil) rfl) (.cons _ _ _ _ (VEq.of_lepl (.cons _ _ _ _ (.same _) .nil) rfl) (.cons _ _ _ _ (VEq.of_lepl (.cons _ _ _ _ (.same _) .nil) rfl) (.cons _ _ _ _ (VEq.of_lepl (.cons _ _ _ _ (.same _) .nil) rfl) .nil))))) .nil) rfl rfl (fun _ => rfl) fun r9 _ h => ?_
              conv => cbv
              refine den_back h hb1 fun j0 hj => ?_
              conv => cbv
              subst hj
              exact ⟨.sl _ _ _ _ rfl, .same _, .same _, .int _ _ _ rfl, trivial⟩
            · conv => cbv
              replace h := den_out h hx1
              refine den_join h fun j0 hj => ?_
              conv => cbv
              subst hj
              exact ⟨.sl _ _ _ _ rfl, trivial⟩
        · unfold blocks_WritePoints_K1 at h
          conv => cbv
          cases h
          exact .tup _ _ (.cons _ _ _ _ (.same _) (.cons _ _ _ _ (.int _ _ _ rfl) .nil))
def T_jetsamlaw12_points : Tab := [(3, ⟨.int .i64, 1, 8, [.int .i64 (.lit 0)]⟩), (27, ⟨.slice 32, 1, 24, [.nilsl]⟩), (32, ⟨.struct [(0, 3), (1, 3), (2, 3)], 3, 24, [.int .i64 (.lit 0), .int .i64 (.lit 0), .int .i64 (.lit 0)]⟩), (47, ⟨.slice 75, 1, 24, [.nilsl]⟩), (75, ⟨.arr 3 3, 3, 24, [.int .i64 (.lit 0), .int .i64 (.lit 0), .int .i64 (.lit 0)]⟩)]
theorem T_jetsamlaw12_points_ok : TabOk Try.prog T_jetsamlaw12_points := by
  have h : T_jetsamlaw12_points = tabOf Try.prog [3, 27, 32, 47, 75] := by kernel_rfl
  rw [h]; exact tabOk_of (by kernel_rfl)
theorem v_jetsamlaw12_points {y0 : List blocks_Point} {r : List (Arr3 Int)} (h : jetsamlaw12_points y0 = some r) : AVal Try.prog [] 22 [(e_sl 3 e_blocks_Point) y0] ((e_sl 3 (e_arr3 e_i64)) r) := by
  refine aval_of (c := ⟨T_jetsamlaw12_points, [], 31, [], []⟩) Try.func22 (by kernel_rfl) rfl rfl rfl T_jetsamlaw12_points_ok (eqsOk_of (by kernel_rfl)) Try_mixed rfl fun P hP _ => ?_
  unfold jetsamlaw12_points at h
  conv => cbv
  refine den_cut (r := r) (fun j1 : (List (Arr3 Int)) => ⟨[(3, .osl 29)], [(29, .arr false 75 3 (e_arr3 e_i64) j1)], []⟩) jetsamlaw12_points_K1 ?_ (fun j1 h => ?_)
  · conv => cbv
    refine den_loop (jetsamlaw12_points_L1 y0) h (fun a2 : Int × (List (Arr3 Int)) => ⟨[(0, .sl 3 e_blocks_Point y0), (3, .osl 29), (4, .int .i64 (.v a2.1))], [(29, .arr false 75 3 (e_arr3 e_i64) a2.2)], []⟩) ?_ (fun _ _ a2 x1 h hb1 hx1 => ?_)
    · intro j0 hj
      conv => cbv
      subst hj
      exact ⟨⟨.arr _ _ _ _ _ _ rfl, trivial⟩, .same _, .own _ _ _ _ _ _ rfl rfl, .int _ _ _ rfl, trivial⟩
    · unfold jetsamlaw12_points_L1 at h
      conv => cbv
      refine den_br h (fun _ h => ?_) (fun _ h => ?_)
      · conv => cbv
        refine .mk (by kernel_rfl) ?_
        conv => cbv
        refine den_elem h fun p3 _ h => ?_
        conv => cbv
        refine .mk ?_
        conv => cbv
        refine den_elem h fun p4 _ h => ?_
        conv => cbv
        refine .mk ?_
        conv => cbv
        refine den_elem h fun p5 _ h => ?_
        conv => cbv
        refine .mk ?_
        conv => cbv
        refine den_app_own (e_arr3 e_i64) (xs := [(⟨p3.Sample, p4.Offset, p5.Count⟩ : Arr3 Int)]) h rfl (News.sls (.cons _ _ _ _ (VEq.of_lepl (.cons _ _ _ _ (.int _ _ _ rfl) (.cons _ _ _ _ (.int _ _ _ rfl) (.cons _ _ _ _ (.int _ _ _ rfl) .nil))) rfl) .nil)) fun l6 _ h => ?_
        conv => cbv
        refine den_back h hb1 fun j0 hj => ?_
        conv => cbv
        subst hj
        exact ⟨⟨.arr _ _ _ _ _ _ rfl, trivial⟩, .same _, .same _, .int _ _ _ rfl, trivial⟩
      · conv => cbv
        replace h := den_out h hx1
        refine den_join h fun j0 hj => ?_
        conv => cbv
        subst hj
        exact ⟨⟨.arr _ _ _ _ _ _ rfl, trivial⟩, .same _, trivial⟩
  · unfold jetsamlaw12_points_K1 at h
    conv => cbv
    cases h
    exact .same _
def T_jetsamref12_Big : Tab := [(3, ⟨.int .i64, 1, 8, [.int .i64 (.lit 0)]⟩), (5, ⟨.int .u8, 1, 1, [.int .u8 (.lit 0)]⟩), (35, ⟨.slice 5, 1, 24, [.nilsl]⟩)]
theorem T_jetsamref12_Big_ok : TabOk Try.prog T_jetsamref12_Big := by
  have h : T_jetsamref12_Big = tabOf Try.prog [3, 5, 35] := by kernel_rfl
  rw [h]; exact tabOk_of (by kernel_rfl)
theorem v_jetsamref12_Big {y0 : Int} {y1 : Int} {r : List Int} (h : jetsamref12_Big y0 y1 = some r) : AVal Try.prog [] 39 [e_i64 y0, e_i64 y1] ((e_sl 1 e_u8) r) := by
  refine aval_of (c := ⟨T_jetsamref12_Big, [], 23, [], []⟩) Try.func39 (by kernel_rfl) rfl rfl rfl T_jetsamref12_Big_ok (eqsOk_of (by kernel_rfl)) Try_mixed rfl fun P hP _ => ?_
  unfold jetsamref12_Big at h
  conv => cbv
  refine den_cut (r := r) (fun j1 : (List Int) => ⟨[(5, .osl 21)], [(21, .arr false 5 1 e_u8 j1)], []⟩) jetsamref12_Big_K1 ?_ (fun j1 h => ?_)
  · conv => cbv
    refine den_loop (jetsamref12_Big_L1 y0) h (fun a2 : Int × (List Int) => ⟨[(0, .int .i64 (.v y0)), (5, .osl 21), (6, .int .i64 (.v a2.1))], [(21, .arr false 5 1 e_u8 a2.2)], []⟩) ?_ (fun _ _ a2 x1 h hb1 hx1 => ?_)
    · intro j0 hj
      conv => cbv
      subst hj
      exact ⟨⟨.arr _ _ _ _ _ _ rfl, trivial⟩, .same _, .own _ _ _ _ _ _ rfl rfl, .int _ _ _ rfl, trivial⟩
    · unfold jetsamref12_Big_L1 at h
      conv => cbv
      refine den_br h (fun _ h => ?_) (fun _ h => ?_)
      · conv => cbv
        refine .mk ?_
        conv => cbv
        refine den_chk h fun h => ?_
        conv => cbv
        refine den_app_own e_u8 (xs := [(IntKind.u8.wrap ((shD .shr .i64 y0 (W (8 * a2.1))).tmod 256))]) h rfl (News.sls (.cons _ _ _ _ (VEq.of_lepl (.cons _ _ _ _ (.int _ _ _ rfl) .nil) rfl) .nil)) fun l3 _ h => ?_
        conv => cbv
        refine den_back h hb1 fun j0 hj => ?_
        conv => cbv
        subst hj
        exact ⟨⟨.arr _ _ _ _ _ _ rfl, trivial⟩, .same _, .same _, .int _ _ _ rfl, trivial⟩
      · conv => cbv
        replace h := den_out h hx1
        refine den_join h fun j0 hj => ?_
        conv => cbv
        subst hj
        exact ⟨⟨.arr _ _ _ _ _ _ rfl, trivial⟩, .same _, trivial⟩
  · unfold jetsamref12_Big_K1 at h
    conv => cbv
    cases h
    exact .same _
def T_jetsamref12_ordered : Tab := [(3, ⟨.int .i64, 1, 8, [.int .i64 (.lit 0)]⟩), (47, ⟨.slice 75, 1, 24, [.nilsl]⟩), (75, ⟨.arr 3 3, 3, 24, [.int .i64 (.lit 0), .int .i64 (.lit 0), .int .i64 (.lit 0)]⟩)]
theorem T_jetsamref12_ordered_ok : TabOk Try.prog T_jetsamref12_ordered := by
  have h : T_jetsamref12_ordered = tabOf Try.prog [3, 47, 75] := by kernel_rfl
  rw [h]; exact tabOk_of (by kernel_rfl)
theorem v_jetsamref12_ordered {y0 : List (Arr3 Int)} {r : Bool} (h : jetsamref12_ordered y0 = some r) : AVal Try.prog [] 40 [(e_sl 3 (e_arr3 e_i64)) y0] (e_bool r) := by
  refine aval_of (c := ⟨T_jetsamref12_ordered, [], 47, [], []⟩) Try.func40 (by kernel_rfl) rfl rfl rfl T_jetsamref12_ordered_ok (eqsOk_of (by kernel_rfl)) Try_mixed rfl fun P hP _ => ?_
  unfold jetsamref12_ordered at h
  conv => cbv
  refine den_cut (r := r) (fun j1 : Unit => ⟨[], [], []⟩) jetsamref12_ordered_K1 ?_ (fun j1 h => ?_)
  · conv => cbv
    refine den_loop (jetsamref12_ordered_L1 y0) h (fun a2 : Int => ⟨[(0, .sl 3 (e_arr3 e_i64) y0), (3, .int .i64 (.v a2))], [], []⟩) ?_ (fun _ _ a2 x1 h hb1 hx1 => ?_)
    · intro j0 hj
      conv => cbv
      subst hj
      exact ⟨.same _, .int _ _ _ rfl, trivial⟩
    · unfold jetsamref12_ordered_L1 at h
      conv => cbv
      refine den_br h (fun _ h => ?_) (fun _ h => ?_)
      · conv => cbv
        refine .mk (by kernel_rfl) ?_
        conv => cbv
        refine den_elem h fun p3 _ h => ?_
        conv => cbv
        refine .mk ?_
        conv => cbv
        refine .mk ?_
        conv => cbv
        refine den_br h (fun _ h => ?_) (fun _ h => ?_)
        · conv => cbv
          refine den_elem h fun p4 _ h => ?_
          conv => cbv
          refine den_elem h fun p5 _ h => ?_
          conv => cbv
          refine .mk ?_
          conv => cbv
          refine .mk ?_
          conv => cbv
          refine den_br h (fun _ h => ?_) (fun _ h => ?_)
          · conv => cbv
            refine .mk ?_
            conv => cbv
            refine .mk ?_
            conv => cbv
            replace h := den_out h hx1
            cases h
            exact .bool _ _ rfl
          · conv => cbv
            refine den_elem h fun p6 _ h => ?_
            conv => cbv
            refine .mk ?_
            conv => cbv
            refine den_br h (fun _ h => ?_) (fun _ h => ?_)
            · conv => cbv
              refine den_elem h fun p7 _ h => ?_
              conv => cbv
              refine .mk ?_
              conv => cbv
              refine den_br h (fun _ h => ?_) (fun _ h => ?_)
              · conv => cbv
                replace h := den_out h hx1
                cases h
                exact .bool _ _ rfl
              · conv => cbv
                refine den_back h hb1 fun j0 hj => ?_
                conv => cbv
                subst hj
                exact ⟨.same _, .int _ _ _ rfl, trivial⟩
            · conv => cbv
              refine .mk ?_
              conv => cbv
              refine den_back h hb1 fun j0 hj => ?_
              conv => cbv
              subst hj
              exact ⟨.same _, .int _ _ _ rfl, trivial⟩
        · conv => cbv
          refine .mk ?_
          conv => cbv
          refine .mk ?_
          conv => cbv
          refine den_elem h fun p8 _ h => ?_
          conv => cbv
          refine .mk ?_
          conv => cbv
          refine den_br h (fun _ h => ?_) (fun _ h => ?_)
          · conv => cbv
            refine den_elem h fun p9 _ h => ?_
            conv => cbv
            refine .mk ?_
            conv => cbv
            refine den_br h (fun _ h => ?_) (fun _ h => ?_)
            · conv => cbv
              replace h := den_out h hx1
              cases h
              exact .bool _ _ rfl
            · conv => cbv
              refine den_back h hb1 fun j0 hj => ?_
              conv => cbv
              subst hj
              exact ⟨.same _, .int _ _ _ rfl, trivial⟩
          · conv => cbv
            refine .mk ?_
            conv => cbv
            refine den_back h hb1 fun j0 hj => ?_
            conv => cbv
            subst hj
            exact ⟨.same _, .int _ _ _ rfl, trivial⟩
      · conv => cbv
        replace h := den_out h hx1
        refine den_join h fun j0 hj => ?_
        conv => cbv
        subst hj
        exact trivial
  · unfold jetsamref12_ordered_K1 at h
    conv => cbv
    cases h
    exact .bool _ _ rfl
def T_jetsamref12_WritePoints : Tab := [(3, ⟨.int .i64, 1, 8, [.int .i64 (.lit 0)]⟩), (5, ⟨.int .u8, 1, 1, [.int .u8 (.lit 0)]⟩), (35, ⟨.slice 5, 1, 24, [.nilsl]⟩), (47, ⟨.slice 75, 1, 24, [.nilsl]⟩), (75, ⟨.arr 3 3, 3, 24, [.int .i64 (.lit 0), .int .i64 (.lit 0), .int .i64 (.lit 0)]⟩)]
theorem T_jetsamref12_WritePoints_ok : TabOk Try.prog T_jetsamref12_WritePoints := by
  have h : T_jetsamref12_WritePoints = tabOf Try.prog [3, 5, 35, 47, 75] := by kernel_rfl
  rw [h]; exact tabOk_of (by kernel_rfl)
theorem v_jetsamref12_WritePoints {y0 : List (Arr3 Int)} {r : (List Int) × Int} (h : jetsamref12_WritePoints y0 = some r) : AVal Try.prog [] 21 [(e_sl 3 (e_arr3 e_i64)) y0] (.tup [(e_sl 1 e_u8) r.1, e_i64 r.2]) := by
  refine aval_of (c := ⟨T_jetsamref12_WritePoints, [], 92, [], []⟩) Try.func21 (by kernel_rfl) rfl rfl rfl T_jetsamref12_WritePoints_ok (eqsOk_of (by kernel_rfl)) Try_mixed rfl fun P hP _ => ?_
  unfold jetsamref12_WritePoints at h
  conv => cbv
  refine den_cut (r := r) (fun j1 : (List Int) => ⟨[(0, .sl 3 (e_arr3 e_i64) y0), (4, .osl 57)], [(57, .arr false 5 1 e_u8 j1)], []⟩) (jetsamref12_WritePoints_K1 y0) ?_ (fun j1 h => ?_)
  · conv => cbv
    refine den_loop (jetsamref12_WritePoints_L1 y0) h (fun a3 : Int × (List Int) => ⟨[(0, .sl 3 (e_arr3 e_i64) y0), (4, .osl 57), (5, .int .i64 (.v a3.1))], [(57, .arr false 5 1 e_u8 a3.2)], []⟩) ?_ (fun _ _ a3 x1 h hb1 hx1 => ?_)
    · intro j0 hj
      conv => cbv
      subst hj
      exact ⟨⟨.arr _ _ _ _ _ _ rfl, trivial⟩, .same _, .own _ _ _ _ _ _ rfl rfl, .int _ _ _ rfl, trivial⟩
    · unfold jetsamref12_WritePoints_L1 at h
      conv => cbv
      refine den_br h (fun _ h => ?_) (fun _ h => ?_)
      · conv => cbv
        refine den_cut (r := x1) (fun j4 : Int × Bool × Int × Bool × Int × Bool × (List Int) => ⟨[(0, .sl 3 (e_arr3 e_i64) y0), (4, .osl 57), (5, .int .i64 (.v a3.1)), (24, .int .i64 (.v j4.1)), (25, .bool (.v j4.2.1)), (32, .int .i64 (.v j4.2.2.1)), (33, .bool (.v j4.2.2.2.1)), (40, .int .i64 (.v j4.2.2.2.2.1)), (41, .bool (.v j4.2.2.2.2.2.1))], [(57, .arr false 5 1 e_u8 j4.2.2.2.2.2.2)], []⟩) (jetsamref12_WritePoints_K2 a3) ?_ (fun j4 h => ?_)
        · conv => cbv
          refine .mk ?_
          conv => cbv
          refine den_elem h fun p5 _ h => ?_
          conv => cbv
          refine .mk ?_
          conv => cbv
          refine den_br h (fun _ h => ?_) (fun _ h => ?_)
          · conv => cbv
            refine .mk ?_
            conv => cbv
            refine .mk ?_
            conv => cbv
            refine .mk ?_
            conv => cbv
            replace h := den_out h hx1
            cases h
            exact .tup _ _ (.cons _ _ _ _ (.nil _ _ _ rfl) (.cons _ _ _ _ (.int _ _ _ rfl) .nil))
          · conv => cbv
            refine den_elem h fun p6 _ h => ?_
            conv => cbv
            refine .mk ?_
            conv => cbv
            refine den_br h (fun _ h => ?_) (fun _ h => ?_)
            · conv => cbv
              refine .mk ?_
              conv => cbv
              refine .mk ?_
              conv => cbv
              replace h := den_out h hx1
              cases h
              exact .tup _ _ (.cons _ _ _ _ (.nil _ _ _ rfl) (.cons _ _ _ _ (.int _ _ _ rfl) .nil))
            · conv => cbv
              refine den_elem h fun p7 _ h => ?_
              conv => cbv
              refine .mk ?_
              conv => cbv
              refine .mk ?_
              conv => cbv
              refine den_br h (fun _ h => ?_) (fun _ h => ?_)
              · conv => cbv
                replace h := den_out h hx1
                cases h
                exact .tup _ _ (.cons _ _ _ _ (.nil _ _ _ rfl) (.cons _ _ _ _ (.int _ _ _ rfl) .nil))
              · conv => cbv
                refine den_elem h fun p8 _ h => ?_
                conv => cbv
                refine den_br h (fun _ h => ?_) (fun _ h => ?_)
                · conv => cbv
                  replace h := den_out h hx1
                  cases h
                  exact .tup _ _ (.cons _ _ _ _ (.nil _ _ _ rfl) (.cons _ _ _ _ (.int _ _ _ rfl) .nil))
                · conv => cbv
                  refine den_cut (r := x1) (fun j9 : (List Int) => ⟨[(0, .sl 3 (e_arr3 e_i64) y0), (4, .osl 57), (5, .int .i64 (.v a3.1)), (22, .rptr [.int .i64 (.v p6.a0), .int .i64 (.v p6.a1), .int .i64 (.v p6.a2)]), (23, .rptr [.int .i64 (.v p6.a1), .int .i64 (.v p6.a2)]), (24, .int .i64 (.v p6.a1)), (25, .bool (.cmp .lss (.v p6.a1) (.lit 0))), (30, .rptr [.int .i64 (.v p7.a0), .int .i64 (.v p7.a1), .int .i64 (.v p7.a2)]), (31, .rptr [.int .i64 (.v p7.a2)]), (32, .int .i64 (.v p7.a2)), (33, .bool (.cmp .lss (.v p7.a2) (.lit 0))), (38, .rptr [.int .i64 (.v p8.a0), .int .i64 (.v p8.a1), .int .i64 (.v p8.a2)]), (39, .rptr [.int .i64 (.v p8.a2)]), (40, .int .i64 (.v p8.a2)), (41, .bool (.cmp .gtr (.v p8.a2) (.lit 65535)))], [(57, .arr false 5 1 e_u8 j9)], []⟩) (jetsamref12_WritePoints_K3 y0 a3 p6 p7 p8) ?_ (fun j9 h => ?_)
                  · conv => cbv
                    refine den_loop (jetsamref12_WritePoints_L2 y0 a3 p6 p7 p8) h (fun a21 : Int × (List Int) => ⟨[(0, .sl 3 (e_arr3 e_i64) y0), (4, .osl 57), (5, .int .i64 (.v a3.1)), (6, .int .i64 (.v a21.1)), (22, .rptr [.int .i64 (.v p6.a0), .int .i64 (.v p6.a1), .int .i64 (.v p6.a2)]), (23, .rptr [.int .i64 (.v p6.a1), .int .i64 (.v p6.a2)]), (24, .int .i64 (.v p6.a1)), (25, .bool (.cmp .lss (.v p6.a1) (.lit 0))), (30, .rptr [.int .i64 (.v p7.a0), .int .i64 (.v p7.a1), .int .i64 (.v p7.a2)]), (31, .rptr [.int .i64 (.v p7.a2)]), (32, .int .i64 (.v p7.a2)), (33, .bool (.cmp .lss (.v p7.a2) (.lit 0))), (38, .rptr [.int .i64 (.v p8.a0), .int .i64 (.v p8.a1), .int .i64 (.v p8.a2)]), (39, .rptr [.int .i64 (.v p8.a2)]), (40, .int .i64 (.v p8.a2)), (41, .bool (.cmp .gtr (.v p8.a2) (.lit 65535)))], [(57, .arr false 5 1 e_u8 a21.2)], []⟩) ?_ (fun _ _ a21 x2 h hb2 hx2 => ?_)
                    · intro j0 hj
                      conv => cbv
                      subst hj
                      exact ⟨⟨.arr _ _ _ _ _ _ rfl, trivial⟩, .same _, .same _, .same _, .int _ _ _ rfl, .same _, .same _, .same _, .same _, .same _, .same _, .same _, .same _, .same _, .same _, .same _, .same _, trivial⟩
                    · unfold jetsamref12_WritePoints_L2 at h
                      conv => cbv
                      refine .mk ?_
                      conv => cbv
                      refine den_br h (fun _ h => ?_) (fun _ h => ?_)
                      · conv => cbv
                        refine den_elem h fun p22 _ h => ?_
                        conv => cbv
                        refine den_br h (fun _ h => ?_) (fun _ h => ?_)
                        · conv => cbv
                          refine den_app_own e_u8 (xs := [(255 : Int)]) h rfl (News.sls (.cons _ _ _ _ (VEq.of_lepl (.cons _ _ _ _ (.int _ _ _ rfl) .nil) rfl) .nil)) fun l23 _ h => ?_
                          conv => cbv
                          refine den_back h hb2 fun j0 hj => ?_
                          conv => cbv
                          subst hj
                          exact ⟨⟨.arr _ _ _ _ _ _ rfl, trivial⟩, .same _, .same _, .same _, .int _ _ _ rfl, .same _, .same _, .same _, .same _, .same _, .same _, .same _, .same _, .same _, .same _, .same _, .same _, trivial⟩
                        · conv => cbv
                          replace h := den_out h hx2
                          refine den_join h fun j0 hj => ?_
                          conv => cbv
                          subst hj
                          exact ⟨⟨.arr _ _ _ _ _ _ rfl, trivial⟩, .same _, .same _, .same _, .same _, .same _, .same _, .same _, .same _, .same _, .same _, .same _, .same _, .same _, .same _, .same _, trivial⟩
                      · conv => cbv
                        replace h := den_out h hx2
                        refine den_join h fun j0 hj => ?_
                        conv => cbv
                        subst hj
                        exact ⟨⟨.arr _ _ _ _ _ _ rfl, trivial⟩, .same _, .same _, .same _, .same _, .same _, .same _, .same _, .same _, .same _, .same _, .same _, .same _, .same _, .same _, .same _, trivial⟩
                  · unfold jetsamref12_WritePoints_K3 at h
                    conv => cbv
                    refine den_cut (r := x1) (fun j10 : (List Int) => ⟨[(0, .sl 3 (e_arr3 e_i64) y0), (4, .osl 57), (5, .int .i64 (.v a3.1)), (22, .rptr [.int .i64 (.v p6.a0), .int .i64 (.v p6.a1), .int .i64 (.v p6.a2)]), (23, .rptr [.int .i64 (.v p6.a1), .int .i64 (.v p6.a2)]), (24, .int .i64 (.v p6.a1)), (25, .bool (.cmp .lss (.v p6.a1) (.lit 0))), (30, .rptr [.int .i64 (.v p7.a0), .int .i64 (.v p7.a1), .int .i64 (.v p7.a2)]), (31, .rptr [.int .i64 (.v p7.a2)]), (32, .int .i64 (.v p7.a2)), (33, .bool (.cmp .lss (.v p7.a2) (.lit 0))), (38, .rptr [.int .i64 (.v p8.a0), .int .i64 (.v p8.a1), .int .i64 (.v p8.a2)]), (39, .rptr [.int .i64 (.v p8.a2)]), (40, .int .i64 (.v p8.a2)), (41, .bool (.cmp .gtr (.v p8.a2) (.lit 65535)))], [(57, .arr false 5 1 e_u8 j10)], []⟩) (jetsamref12_WritePoints_K4 y0 a3 p6 p7 p8) ?_ (fun j10 h => ?_)
                    · conv => cbv
                      refine .mk ?_
                      conv => cbv
                      refine den_elem h fun p17 _ h => ?_
                      conv => cbv
                      refine den_br h (fun _ h => ?_) (fun _ h => ?_)
                      · conv => cbv
                        refine .mk ?_
                        conv => cbv
                        refine den_elem h fun p18 _ h => ?_
                        conv => cbv
                        refine den_call (e_sl 1 e_u8) [e_i64 p18.a0, e_i64 (8 : Int)] h (fun _ h => hP ▸ v_jetsamref12_Big h) (.cons _ _ _ _ (.same _) (.cons _ _ _ _ (.int _ _ _ rfl) .nil)) rfl rfl (fun _ => rfl) fun r19 _ h => ?_
                        conv => cbv
                        refine den_app_own e_u8 (xs := r19) h rfl (News.map rfl) fun l20 _ h => ?_
                        conv => cbv
                        refine den_join h fun j0 hj => ?_
                        conv => cbv
                        subst hj
                        exact ⟨⟨.arr _ _ _ _ _ _ rfl, trivial⟩, .same _, .same _, .same _, .same _, .same _, .same _, .same _, .same _, .same _, .same _, .same _, .same _, .same _, .same _, .same _, trivial⟩
                      · conv => cbv
                        refine den_join h fun j0 hj => ?_
                        conv => cbv
                        subst hj
                        exact ⟨⟨.arr _ _ _ _ _ _ rfl, trivial⟩, .same _, .same _, .same _, .same _, .same _, .same _, .same _, .same _, .same _, .same _, .same _, .same _, .same _, .same _, .same _, trivial⟩
                    · unfold jetsamref12_WritePoints_K4 at h
                      conv => cbv
                      refine .mk ?_
                      conv => cbv
                      refine den_elem h fun p11 _ h => ?_
                      conv => cbv
                      refine den_call (e_sl 1 e_u8) [e_i64 p11.a1, e_i64 (8 : Int)] h (fun _ h => hP ▸ v_jetsamref12_Big h) (.cons _ _ _ _ (.same _) (.cons _ _ _ _ (.int _ _ _ rfl) .nil)) rfl rfl (fun _ => rfl) fun r12 _ h => ?_
                      conv => cbv
                      refine den_app_own e_u8 (xs := r12) h rfl (News.map rfl) fun l13 _ h => ?_
                      conv => cbv
                      refine .mk ?_
                      conv => cbv
                      refine den_elem h fun p14 _ h => ?_
                      conv => cbv
                      refine den_call (e_sl 1 e_u8) [e_i64 p14.a2, e_i64 (2 : Int)] h (fun _ h => hP ▸ v_jetsamref12_Big h) (.cons _ _ _ _ (.same _) (.cons _ _ _ _ (.int _ _ _ rfl) .nil)) rfl rfl (fun _ => rfl) fun r15 _ h => ?_
                      conv => cbv
                      refine den_app_own e_u8 (xs := r15) h rfl (News.map rfl) fun l16 _ h => ?_
                      conv => cbv
                      refine den_join h fun j0 hj => ?_
                      conv => cbv
                      subst hj
                      exact ⟨⟨.arr _ _ _ _ _ _ rfl, trivial⟩, .same _, .same _, .same _, .int _ _ _ rfl, .bool _ _ rfl, .int _ _ _ rfl, .bool _ _ rfl, .int _ _ _ rfl, .bool _ _ rfl, trivial⟩
        · unfold jetsamref12_WritePoints_K2 at h
          conv => cbv
          refine den_back h hb1 fun j0 hj => ?_
          conv => cbv
          subst hj
          exact ⟨⟨.arr _ _ _ _ _ _ rfl, trivial⟩, .same _, .same _, .int _ _ _ rfl, trivial⟩
      · conv => cbv
        replace h := den_out h hx1
        refine den_join h fun j0 hj => ?_
        conv => cbv
        subst hj
        exact ⟨⟨.arr _ _ _ _ _ _ rfl, trivial⟩, .same _, .same _, trivial⟩
  · unfold jetsamref12_WritePoints_K1 at h
    conv => cbv
    refine den_call e_bool [(e_sl 3 (e_arr3 e_i64)) y0] h (fun _ h => hP ▸ v_jetsamref12_ordered h) (.cons _ _ _ _ (.same _) .nil) rfl rfl (fun _ => rfl) fun r2 _ h => ?_
    conv => cbv
    refine den_br h (fun _ h => ?_) (fun _ h => ?_)
    · conv => cbv
      cases h
      exact .tup _ _ (.cons _ _ _ _ (.nil _ _ _ rfl) (.cons _ _ _ _ (.int _ _ _ rfl) .nil))
    · conv => cbv
      cases h
      exact .tup _ _ (.cons _ _ _ _ (.same _) (.cons _ _ _ _ (.int _ _ _ rfl) .nil))
def T_jetsamref12_number : Tab := [(3, ⟨.int .i64, 1, 8, [.int .i64 (.lit 0)]⟩), (5, ⟨.int .u8, 1, 1, [.int .u8 (.lit 0)]⟩), (35, ⟨.slice 5, 1, 24, [.nilsl]⟩)]
theorem T_jetsamref12_number_ok : TabOk Try.prog T_jetsamref12_number := by
  have h : T_jetsamref12_number = tabOf Try.prog [3, 5, 35] := by kernel_rfl
  rw [h]; exact tabOk_of (by kernel_rfl)
theorem v_jetsamref12_number {y0 : List Int} {r : Int} (h : jetsamref12_number y0 = some r) : AVal Try.prog [] 43 [(e_sl 1 e_u8) y0] (e_i64 r) := by
  refine aval_of (c := ⟨T_jetsamref12_number, [], 37, [], []⟩) Try.func43 (by kernel_rfl) rfl rfl rfl T_jetsamref12_number_ok (eqsOk_of (by kernel_rfl)) Try_mixed rfl fun P hP _ => ?_
  unfold jetsamref12_number at h
  conv => cbv
  refine den_cut (r := r) (fun j1 : Bool => ⟨[(0, .sl 1 e_u8 y0), (3, .int .i64 (.lit 0)), (4, .bool (.v j1))], [], []⟩) (jetsamref12_number_K1 y0) ?_ (fun j1 h => ?_)
  · conv => cbv
    refine den_loop (jetsamref12_number_L2 y0) h (fun a6 : Bool × Int => ⟨[(0, .sl 1 e_u8 y0), (3, .int .i64 (.lit 0)), (4, .bool (.v a6.1)), (5, .int .i64 (.v a6.2))], [], []⟩) ?_ (fun _ _ a6 x1 h hb1 hx1 => ?_)
    · intro j0 hj
      conv => cbv
      subst hj
      exact ⟨.same _, .same _, .bool _ _ rfl, .int _ _ _ rfl, trivial⟩
    · unfold jetsamref12_number_L2 at h
      conv => cbv
      refine den_br h (fun _ h => ?_) (fun _ h => ?_)
      · conv => cbv
        refine .mk ?_
        conv => cbv
        refine den_br h (fun _ h => ?_) (fun _ h => ?_)
        · conv => cbv
          refine den_elem h fun p7 _ h => ?_
          conv => cbv
          refine den_back h hb1 fun j0 hj => ?_
          conv => cbv
          subst hj
          exact ⟨.same _, .same _, .bool _ _ rfl, .int _ _ _ rfl, trivial⟩
        · conv => cbv
          refine den_back h hb1 fun j0 hj => ?_
          conv => cbv
          subst hj
          exact ⟨.same _, .same _, .bool _ _ rfl, .int _ _ _ rfl, trivial⟩
      · conv => cbv
        replace h := den_out h hx1
        refine den_join h fun j0 hj => ?_
        conv => cbv
        subst hj
        exact ⟨.same _, .same _, .bool _ _ rfl, trivial⟩
  · unfold jetsamref12_number_K1 at h
    conv => cbv
    refine den_br h (fun _ h => ?_) (fun _ h => ?_)
    · conv => cbv
      cases h
      exact .int _ _ _ rfl
    · conv => cbv
      refine den_elem h fun p2 _ h => ?_
      conv => cbv
      refine den_br h (fun _ h => ?_) (fun _ h => ?_)
      · conv => cbv
        cases h
        exact .int _ _ _ rfl
      · conv => cbv
        refine den_cut (r := r) (fun j3 : Int => ⟨[(3, .int .i64 (.v j3))], [], []⟩) jetsamref12_number_K2 ?_ (fun j3 h => ?_)
        · conv => cbv
          refine den_loop (jetsamref12_number_L1 y0) h (fun a4 : Int × Int => ⟨[(0, .sl 1 e_u8 y0), (3, .int .i64 (.v a4.1)), (6, .int .i64 (.v a4.2))], [], []⟩) ?_ (fun _ _ a4 x1 h hb1 hx1 => ?_)
          · intro j0 hj
            conv => cbv
            subst hj
            exact ⟨.same _, .int _ _ _ rfl, .int _ _ _ rfl, trivial⟩
          · unfold jetsamref12_number_L1 at h
            conv => cbv
            refine den_br h (fun _ h => ?_) (fun _ h => ?_)
            · conv => cbv
              refine .mk ?_
              conv => cbv
              refine den_elem h fun p5 _ h => ?_
              conv => cbv
              refine den_back h hb1 fun j0 hj => ?_
              conv => cbv
              subst hj
              exact ⟨.same _, .int _ _ _ rfl, .int _ _ _ rfl, trivial⟩
            · conv => cbv
              replace h := den_out h hx1
              refine den_join h fun j0 hj => ?_
              conv => cbv
              subst hj
              exact ⟨.int _ _ _ rfl, trivial⟩
        · unfold jetsamref12_number_K2 at h
          conv => cbv
          cases h
          exact .same _
def T_jetsamref12_Points : Tab := [(3, ⟨.int .i64, 1, 8, [.int .i64 (.lit 0)]⟩), (5, ⟨.int .u8, 1, 1, [.int .u8 (.lit 0)]⟩), (35, ⟨.slice 5, 1, 24, [.nilsl]⟩), (47, ⟨.slice 75, 1, 24, [.nilsl]⟩), (75, ⟨.arr 3 3, 3, 24, [.int .i64 (.lit 0), .int .i64 (.lit 0), .int .i64 (.lit 0)]⟩)]
theorem T_jetsamref12_Points_ok : TabOk Try.prog T_jetsamref12_Points := by
  have h : T_jetsamref12_Points = tabOf Try.prog [3, 5, 35, 47, 75] := by kernel_rfl
  rw [h]; exact tabOk_of (by kernel_rfl)
theorem v_jetsamref12_Points {y0 : List Int} {r : (List (Arr3 Int)) × Int} (h : jetsamref12_Points y0 = some r) : AVal Try.prog [] 24 [(e_sl 1 e_u8) y0] (.tup [(e_sl 3 (e_arr3 e_i64)) r.1, e_i64 r.2]) := by
  refine aval_of (c := ⟨T_jetsamref12_Points, [], 61, [], []⟩) Try.func24 (by kernel_rfl) rfl rfl rfl T_jetsamref12_Points_ok (eqsOk_of (by kernel_rfl)) Try_mixed rfl fun P hP _ => ?_
  unfold jetsamref12_Points at h
  conv => cbv
  refine den_br h (fun _ h => ?_) (fun _ h => ?_)
  · conv => cbv
    cases h
    exact .tup _ _ (.cons _ _ _ _ (.nil _ _ _ rfl) (.cons _ _ _ _ (.int _ _ _ rfl) .nil))
  · conv => cbv
    refine den_cut (r := r) (fun j1 : (List (Arr3 Int)) => ⟨[(4, .osl 56)], [(56, .arr false 75 3 (e_arr3 e_i64) j1)], []⟩) jetsamref12_Points_K1 ?_ (fun j1 h => ?_)
    · conv => cbv
      refine den_loop (jetsamref12_Points_L1 y0) h (fun a3 : Int × (List (Arr3 Int)) => ⟨[(0, .sl 1 e_u8 y0), (4, .osl 56), (5, .int .i64 (.v a3.1))], [(56, .arr false 75 3 (e_arr3 e_i64) a3.2)], []⟩) ?_ (fun _ _ a3 x1 h hb1 hx1 => ?_)
      · intro j0 hj
        conv => cbv
        subst hj
        exact ⟨⟨.arr _ _ _ _ _ _ rfl, trivial⟩, .same _, .own _ _ _ _ _ _ rfl rfl, .int _ _ _ rfl, trivial⟩
      · unfold jetsamref12_Points_L1 at h
        conv => cbv
        refine den_br h (fun _ h => ?_) (fun _ h => ?_)
        · conv => cbv
          refine .mk (by kernel_rfl) ?_
          conv => cbv
          refine den_sub h fun l4 _ h => ?_
          conv => cbv
          refine .mk ?_
          conv => cbv
          refine den_sub h fun l5 _ h => ?_
          conv => cbv
          refine .mk ?_
          conv => cbv
          refine den_elem h fun p6 _ h => ?_
          conv => cbv
          refine .mk ?_
          conv => cbv
          refine den_elem h fun p7 _ h => ?_
          conv => cbv
          refine .mk ?_
          conv => cbv
          refine ⟨?_, ?_⟩
          · refine den_call e_i64 [(e_sl 1 e_u8) l4] h (fun _ h => hP ▸ v_jetsamref12_number h) (.cons _ _ _ _ (.same _) .nil) rfl rfl (fun _ => rfl) fun r8 _ h => ?_
            conv => cbv
            refine ⟨?_, ?_⟩
            · refine den_call e_i64 [(e_sl 1 e_u8) l5] h (fun _ h => hP ▸ v_jetsamref12_number h) (.cons _ _ _ _ (.same _) .nil) rfl rfl (fun _ => rfl) fun r9 _ h => ?_
              conv => cbv
              refine .mk ?_
              conv => cbv
              refine .mk ?_
              conv => cbv
              refine den_br h (fun _ h => ?_) (fun _ h => ?_)
              · conv => cbv
                replace h := den_out h hx1
                cases h
                exact .tup _ _ (.cons _ _ _ _ (.nil _ _ _ rfl) (.cons _ _ _ _ (.int _ _ _ rfl) .nil))
              · conv => cbv
                refine den_br h (fun _ h => ?_) (fun _ h => ?_)
                · conv => cbv
                  replace h := den_out h hx1
                  cases h
                  exact .tup _ _ (.cons _ _ _ _ (.nil _ _ _ rfl) (.cons _ _ _ _ (.int _ _ _ rfl) .nil))
                · conv => cbv
                  refine den_app_own (e_arr3 e_i64) (xs := [(⟨r8, r9, (W ((W (p6 * 256)) + p7))⟩ : Arr3 Int)]) h rfl (News.sls (.cons _ _ _ _ (VEq.of_lepl (.cons _ _ _ _ (.int _ _ _ rfl) (.cons _ _ _ _ (.int _ _ _ rfl) (.cons _ _ _ _ (.int _ _ _ rfl) .nil))) rfl) .nil)) fun l10 _ h => ?_
                  conv => cbv
                  refine den_back h hb1 fun j0 hj => ?_
                  conv => cbv
                  subst hj
                  exact ⟨⟨.arr _ _ _ _ _ _ rfl, trivial⟩, .same _, .same _, .int _ _ _ rfl, trivial⟩
            · refine den_call e_i64 [(e_sl 1 e_u8) l5] h (fun _ h => hP ▸ v_jetsamref12_number h) (.cons _ _ _ _ (.same _) .nil) rfl rfl (fun _ => rfl) fun r11 _ h => ?_
              conv => cbv
              refine .mk ?_
              conv => cbv
              refine .mk ?_
              conv => cbv
              refine den_br h (fun _ h => ?_) (fun _ h => ?_)
              · conv => cbv
                replace h := den_out h hx1
                cases h
                exact .tup _ _ (.cons _ _ _ _ (.nil _ _ _ rfl) (.cons _ _ _ _ (.int _ _ _ rfl) .nil))
              · conv => cbv
                refine den_br h (fun _ h => ?_) (fun _ h => ?_)
                · conv => cbv
                  replace h := den_out h hx1
                  cases h
                  exact .tup _ _ (.cons _ _ _ _ (.nil _ _ _ rfl) (.cons _ _ _ _ (.int _ _ _ rfl) .nil))
                · conv => cbv
                  refine den_app_own (e_arr3 e_i64) (xs := [(⟨r8, r11, (W ((W (p6 * 256)) + p7))⟩ : Arr3 Int)]) h rfl (News.sls (.cons _ _ _ _ (VEq.of_lepl (.cons _ _ _ _ (.int _ _ _ rfl) (.cons _ _ _ _ (.int _ _ _ rfl) (.cons _ _ _ _ (.int _ _ _ rfl) .nil))) rfl) .nil)) fun l12 _ h => ?_
                  conv => cbv
                  refine den_back h hb1 fun j0 hj => ?_
                  conv => cbv
                  subst hj
                  exact ⟨⟨.arr _ _ _ _ _ _ rfl, trivial⟩, .same _, .same _, .int _ _ _ rfl, trivial⟩
          · refine den_call e_i64 [(e_sl 1 e_u8) l4] h (fun _ h => hP ▸ v_jetsamref12_number h) (.cons _ _ _ _ (.same _) .nil) rfl rfl (fun _ => rfl) fun r13 _ h => ?_
            conv => cbv
            refine den_call e_i64 [(e_sl 1 e_u8) l5] h (fun _ h => hP ▸ v_jetsamref12_number h) (.cons _ _ _ _ (.same _) .nil) rfl rfl (fun _ => rfl) fun r14 _ h => ?_
            conv => cbv
            refine .mk ?_
            conv => cbv
            refine .mk ?_
            conv => cbv
            refine den_br h (fun _ h => ?_) (fun _ h => ?_)
            · conv => cbv
              replace h := den_out h hx1
              cases h
              exact .tup _ _ (.cons _ _ _ _ (.nil _ _ _ rfl) (.cons _ _ _ _ (.int _ _ _ rfl) .nil))
            · conv => cbv
              refine den_br h (fun _ h => ?_) (fun _ h => ?_)
              · conv => cbv
                replace h := den_out h hx1
                cases h
                exact .tup _ _ (.cons _ _ _ _ (.nil _ _ _ rfl) (.cons _ _ _ _ (.int _ _ _ rfl) .nil))
              · conv => cbv
                refine den_app_own (e_arr3 e_i64) (xs := [(⟨r13, r14, (W ((W (p6 * 256)) + p7))⟩ : Arr3 Int)]) h rfl (News.sls (.cons _ _ _ _ (VEq.of_lepl (.cons _ _ _ _ (.int _ _ _ rfl) (.cons _ _ _ _ (.int _ _ _ rfl) (.cons _ _ _ _ (.int _ _ _ rfl) .nil))) rfl) .nil)) fun l15 _ h => ?_
                conv => cbv
                refine den_back h hb1 fun j0 hj => ?_
                conv => cbv
                subst hj
                exact ⟨⟨.arr _ _ _ _ _ _ rfl, trivial⟩, .same _, .same _, .int _ _ _ rfl, trivial⟩
        · conv => cbv
          replace h := den_out h hx1
          refine den_join h fun j0 hj => ?_
          conv => cbv
          subst hj
          exact ⟨⟨.arr _ _ _ _ _ _ rfl, trivial⟩, .same _, trivial⟩
    · unfold jetsamref12_Points_K1 at h
      conv => cbv
      refine den_lend e_bool [(e_sl 3 (e_arr3 e_i64)) j1] h (fun _ h => hP ▸ v_jetsamref12_ordered h) (.cons _ _ _ _ (.same _) .nil) (fun _ => rfl) fun r2 _ h => ?_
      conv => cbv
      refine den_br h (fun _ h => ?_) (fun _ h => ?_)
      · conv => cbv
        cases h
        exact .tup _ _ (.cons _ _ _ _ (.nil _ _ _ rfl) (.cons _ _ _ _ (.int _ _ _ rfl) .nil))
      · conv => cbv
        cases h
        exact .tup _ _ (.cons _ _ _ _ (.same _) (.cons _ _ _ _ (.int _ _ _ rfl) .nil))
def T_jetsamlaw12_same : Tab := [(47, ⟨.slice 75, 1, 24, [.nilsl]⟩), (75, ⟨.arr 3 3, 3, 24, [.int .i64 (.lit 0), .int .i64 (.lit 0), .int .i64 (.lit 0)]⟩)]
theorem T_jetsamlaw12_same_ok : TabOk Try.prog T_jetsamlaw12_same := by
  have h : T_jetsamlaw12_same = tabOf Try.prog [47, 75] := by kernel_rfl
  rw [h]; exact tabOk_of (by kernel_rfl)
theorem v_jetsamlaw12_same {y0 : List (Arr3 Int)} {y1 : List (Arr3 Int)} {r : Bool} (h : jetsamlaw12_same y0 y1 = some r) : AVal Try.prog [] 25 [(e_sl 3 (e_arr3 e_i64)) y0, (e_sl 3 (e_arr3 e_i64)) y1] (e_bool r) := by
  refine aval_of (c := ⟨T_jetsamlaw12_same, [], 26, [], [(75, [.i, .i, .i])]⟩) Try.func25 (by kernel_rfl) rfl rfl rfl T_jetsamlaw12_same_ok (eqsOk_of (by kernel_rfl)) Try_mixed rfl fun P hP _ => ?_
  unfold jetsamlaw12_same at h
  conv => cbv
  refine den_br h (fun _ h => ?_) (fun _ h => ?_)
  · conv => cbv
    cases h
    exact .bool _ _ rfl
  · conv => cbv
    refine den_cut (r := r) (fun j1 : Unit => ⟨[], [], []⟩) jetsamlaw12_same_K1 ?_ (fun j1 h => ?_)
    · conv => cbv
      refine den_loop (jetsamlaw12_same_L1 y0 y1) h (fun a2 : Int => ⟨[(0, .sl 3 (e_arr3 e_i64) y0), (1, .sl 3 (e_arr3 e_i64) y1), (5, .int .i64 (.v a2))], [], []⟩) ?_ (fun _ _ a2 x1 h hb1 hx1 => ?_)
      · intro j0 hj
        conv => cbv
        subst hj
        exact ⟨.same _, .same _, .int _ _ _ rfl, trivial⟩
      · unfold jetsamlaw12_same_L1 at h
        conv => cbv
        refine den_br h (fun _ h => ?_) (fun _ h => ?_)
        · conv => cbv
          refine .mk (by kernel_rfl) ?_
          conv => cbv
          refine den_elem h fun p3 _ h => ?_
          conv => cbv
          refine .mk ?_
          conv => cbv
          refine den_elem h fun p4 _ h => ?_
          conv => cbv
          refine den_br h (fun _ h => ?_) (fun _ h => ?_)
          · conv => cbv
            replace h := den_out h hx1
            cases h
            exact .bool _ _ rfl
          · conv => cbv
            refine den_back h hb1 fun j0 hj => ?_
            conv => cbv
            subst hj
            exact ⟨.same _, .same _, .int _ _ _ rfl, trivial⟩
        · conv => cbv
          replace h := den_out h hx1
          refine den_join h fun j0 hj => ?_
          conv => cbv
          subst hj
          exact trivial
    · unfold jetsamlaw12_same_K1 at h
      conv => cbv
      cases h
      exact .bool _ _ rfl
def T_jetsamlaw12_BlocksPoints : Tab := [(27, ⟨.slice 32, 1, 24, [.nilsl]⟩), (35, ⟨.slice 5, 1, 24, [.nilsl]⟩)]
theorem T_jetsamlaw12_BlocksPoints_ok : TabOk Try.prog T_jetsamlaw12_BlocksPoints := by
  have h : T_jetsamlaw12_BlocksPoints = tabOf Try.prog [27, 35] := by kernel_rfl
  rw [h]; exact tabOk_of (by kernel_rfl)
theorem v_jetsamlaw12_BlocksPoints {y0 : List blocks_Point} {y1 : List Int} {r : Bool} (h : jetsamlaw12_BlocksPoints y0 y1 = some r) : AVal Try.prog [] 6 [(e_sl 3 e_blocks_Point) y0, (e_sl 1 e_u8) y1] (e_bool r) := by
  refine aval_of (c := ⟨T_jetsamlaw12_BlocksPoints, [], 66, [], []⟩) Try.func6 (by kernel_rfl) rfl rfl rfl T_jetsamlaw12_BlocksPoints_ok (eqsOk_of (by kernel_rfl)) Try_mixed rfl fun P hP _ => ?_
  unfold jetsamlaw12_BlocksPoints at h
  conv => cbv
  refine .mk ?_
  conv => cbv
  refine den_br h (fun _ h => ?_) (fun _ h => ?_)
  · conv => cbv
    refine den_call e_bool [] h (fun _ h => hP ▸ v_jetsamlaw12_awake h) .nil rfl rfl (fun _ => rfl) fun r1 _ h => ?_
    conv => cbv
    cases h
    exact .same _
  · conv => cbv
    refine .mk ?_
    conv => cbv
    refine den_call (fun r : (List Int) × Int => .tup [(e_sl 1 e_u8) r.1, e_i64 r.2]) [(e_sl 3 e_blocks_Point) y0] h (fun _ h => hP ▸ v_blocks_WritePoints h) (.cons _ _ _ _ (.same _) .nil) rfl rfl (fun _ => rfl) fun r2 _ h => ?_
    conv => cbv
    refine den_call (e_sl 3 (e_arr3 e_i64)) [(e_sl 3 e_blocks_Point) y0] h (fun _ h => hP ▸ v_jetsamlaw12_points h) (.cons _ _ _ _ (.same _) .nil) rfl rfl (fun _ => rfl) fun r3 _ h => ?_
    conv => cbv
    refine .mk ?_
    conv => cbv
    refine den_call (fun r : (List Int) × Int => .tup [(e_sl 1 e_u8) r.1, e_i64 r.2]) [(e_sl 3 (e_arr3 e_i64)) r3] h (fun _ h => hP ▸ v_jetsamref12_WritePoints h) (.cons _ _ _ _ (.same _) .nil) rfl rfl (fun _ => rfl) fun r4 _ h => ?_
    conv => cbv
    refine den_cut (r := r) (fun j5 : (List Int) => ⟨[(1, .sl 1 e_u8 y1), (5, .sl 1 e_u8 r2.1), (6, .int .i64 (.v r2.2)), (7, .sl 1 e_u8 j5), (8, .int .i64 (.v r4.2))], [], []⟩) (jetsamlaw12_BlocksPoints_K1 y1 r2 r4) ?_ (fun j5 h => ?_)
    · conv => cbv
      refine den_br h (fun _ h => ?_) (fun _ h => ?_)
      · conv => cbv
        refine den_join h fun j0 hj => ?_
        conv => cbv
        subst hj
        exact ⟨.same _, .same _, .same _, .nil _ _ _ rfl, .same _, trivial⟩
      · conv => cbv
        refine den_join h fun j0 hj => ?_
        conv => cbv
        subst hj
        exact ⟨.same _, .same _, .same _, .sl _ _ _ _ rfl, .same _, trivial⟩
    · unfold jetsamlaw12_BlocksPoints_K1 at h
      conv => cbv
      refine den_call e_bool [(e_sl 1 e_u8) r2.1, (e_sl 1 e_u8) j5] h (fun _ h => hP ▸ v_jetsamlaw11_Bytes h) (.cons _ _ _ _ (.same _) (.cons _ _ _ _ (.same _) .nil)) rfl rfl (fun _ => rfl) fun r6 _ h => ?_
      conv => cbv
      refine .mk ?_
      conv => cbv
      refine den_br h (fun _ h => ?_) (fun _ h => ?_)
      · conv => cbv
        cases h
        exact .bool _ _ rfl
      · conv => cbv
        refine .mk ?_
        conv => cbv
        refine den_call (fun r : (List blocks_Point) × Int => .tup [(e_sl 3 e_blocks_Point) r.1, e_i64 r.2]) [(e_sl 1 e_u8) y1] h (fun _ h => hP ▸ v_blocks_Points h) (.cons _ _ _ _ (.same _) .nil) rfl rfl (fun _ => rfl) fun r7 _ h => ?_
        conv => cbv
        refine .mk ?_
        conv => cbv
        refine den_call (fun r : (List (Arr3 Int)) × Int => .tup [(e_sl 3 (e_arr3 e_i64)) r.1, e_i64 r.2]) [(e_sl 1 e_u8) y1] h (fun _ h => hP ▸ v_jetsamref12_Points h) (.cons _ _ _ _ (.same _) .nil) rfl rfl (fun _ => rfl) fun r8 _ h => ?_
        conv => cbv
        refine .mk ?_
        conv => cbv
        refine den_call (e_sl 3 (e_arr3 e_i64)) [(e_sl 3 e_blocks_Point) r7.1] h (fun _ h => hP ▸ v_jetsamlaw12_points h) (.cons _ _ _ _ (.same _) .nil) rfl rfl (fun _ => rfl) fun r9 _ h => ?_
        conv => cbv
        refine den_call e_bool [(e_sl 3 (e_arr3 e_i64)) r9, (e_sl 3 (e_arr3 e_i64)) r8.1] h (fun _ h => hP ▸ v_jetsamlaw12_same h) (.cons _ _ _ _ (.same _) (.cons _ _ _ _ (.same _) .nil)) rfl rfl (fun _ => rfl) fun r10 _ h => ?_
        conv => cbv
        refine .mk ?_
        conv => cbv
        refine den_br h (fun _ h => ?_) (fun _ h => ?_)
        · conv => cbv
          refine den_call e_bool [] h (fun _ h => hP ▸ v_jetsamlaw12_awake h) .nil rfl rfl (fun _ => rfl) fun r11 _ h => ?_
          conv => cbv
          cases h
          exact .same _
        · conv => cbv
          cases h
          exact .bool _ _ rfl
def T_jetsamlaw12_BlocksTable : Tab := [(3, ⟨.int .i64, 1, 8, [.int .i64 (.lit 0)]⟩), (27, ⟨.slice 32, 1, 24, [.nilsl]⟩), (32, ⟨.struct [(0, 3), (1, 3), (2, 3)], 3, 24, [.int .i64 (.lit 0), .int .i64 (.lit 0), .int .i64 (.lit 0)]⟩), (35, ⟨.slice 5, 1, 24, [.nilsl]⟩)]
theorem T_jetsamlaw12_BlocksTable_ok : TabOk Try.prog T_jetsamlaw12_BlocksTable := by
  have h : T_jetsamlaw12_BlocksTable = tabOf Try.prog [3, 27, 32, 35] := by kernel_rfl
  rw [h]; exact tabOk_of (by kernel_rfl)
theorem v_jetsamlaw12_BlocksTable {y0 : List blocks_Point} {y1 : List Int} {r : Bool} (h : jetsamlaw12_BlocksTable y0 y1 = some r) : AVal Try.prog [] 7 [(e_sl 3 e_blocks_Point) y0, (e_sl 1 e_u8) y1] (e_bool r) := by
  refine aval_of (c := ⟨T_jetsamlaw12_BlocksTable, [], 104, [], []⟩) Try.func7 (by kernel_rfl) rfl rfl rfl T_jetsamlaw12_BlocksTable_ok (eqsOk_of (by kernel_rfl)) Try_mixed rfl fun P hP _ => ?_
  unfold jetsamlaw12_BlocksTable at h
  conv => cbv
  refine .mk ?_
  conv => cbv
  refine den_br h (fun _ h => ?_) (fun _ h => ?_)
  · conv => cbv
    refine den_call e_bool [] h (fun _ h => hP ▸ v_jetsamlaw12_awake h) .nil rfl rfl (fun _ => rfl) fun r1 _ h => ?_
    conv => cbv
    cases h
    exact .same _
  · conv => cbv
    refine .mk ?_
    conv => cbv
    refine den_call (fun r : (List Int) × Int => .tup [(e_sl 1 e_u8) r.1, e_i64 r.2]) [(e_sl 3 e_blocks_Point) y0] h (fun _ h => hP ▸ v_blocks_WritePoints h) (.cons _ _ _ _ (.same _) .nil) rfl rfl (fun _ => rfl) fun r2 _ h => ?_
    conv => cbv
    refine den_cut (r := r) (fun j3 : Unit => ⟨[(1, .sl 1 e_u8 y1)], [], []⟩) (jetsamlaw12_BlocksTable_K1 y1) ?_ (fun j3 h => ?_)
    · conv => cbv
      refine den_br h (fun _ h => ?_) (fun _ h => ?_)
      · conv => cbv
        refine .mk ?_
        conv => cbv
        refine den_call (fun r : (List blocks_Point) × Int => .tup [(e_sl 3 e_blocks_Point) r.1, e_i64 r.2]) [(e_sl 1 e_u8) r2.1] h (fun _ h => hP ▸ v_blocks_Points h) (.cons _ _ _ _ (.same _) .nil) rfl rfl (fun _ => rfl) fun r9 _ h => ?_
        conv => cbv
        refine .mk ?_
        conv => cbv
        refine den_br h (fun _ h => ?_) (fun _ h => ?_)
        · conv => cbv
          cases h
          exact .bool _ _ rfl
        · conv => cbv
          refine den_call (e_sl 3 (e_arr3 e_i64)) [(e_sl 3 e_blocks_Point) r9.1] h (fun _ h => hP ▸ v_jetsamlaw12_points h) (.cons _ _ _ _ (.same _) .nil) rfl rfl (fun _ => rfl) fun r10 _ h => ?_
          conv => cbv
          refine den_call (e_sl 3 (e_arr3 e_i64)) [(e_sl 3 e_blocks_Point) y0] h (fun _ h => hP ▸ v_jetsamlaw12_points h) (.cons _ _ _ _ (.same _) .nil) rfl rfl (fun _ => rfl) fun r11 _ h => ?_
          conv => cbv
          refine den_call e_bool [(e_sl 3 (e_arr3 e_i64)) r10, (e_sl 3 (e_arr3 e_i64)) r11] h (fun _ h => hP ▸ v_jetsamlaw12_same h) (.cons _ _ _ _ (.same _) (.cons _ _ _ _ (.same _) .nil)) rfl rfl (fun _ => rfl) fun r12 _ h => ?_
          conv => cbv
          refine den_br h (fun _ h => ?_) (fun _ h => ?_)
          · conv => cbv
            cases h
            exact .bool _ _ rfl
          · conv => cbv
            refine den_loop (jetsamlaw12_BlocksTable_L1 y0 y1) h (fun a13 : Int => ⟨[(0, .sl 3 e_blocks_Point y0), (1, .sl 1 e_u8 y1), (9, .int .i64 (.v a13))], [], []⟩) ?_ (fun _ _ a13 x1 h hb1 hx1 => ?_)
            · intro j0 hj
              conv => cbv
              subst hj
              exact ⟨.same _, .same _, .int _ _ _ rfl, trivial⟩
            · unfold jetsamlaw12_BlocksTable_L1 at h
              conv => cbv
              refine den_br h (fun _ h => ?_) (fun _ h => ?_)
              · conv => cbv
                refine den_cut (r := x1) (fun j14 : Unit => ⟨[(0, .sl 3 e_blocks_Point y0), (1, .sl 1 e_u8 y1), (9, .int .i64 (.v a13))], [], []⟩) (jetsamlaw12_BlocksTable_K2 a13) ?_ (fun j14 h => ?_)
                · conv => cbv
                  refine den_loop (jetsamlaw12_BlocksTable_L2 y0 a13) h (fun a15 : Int => ⟨[(0, .sl 3 e_blocks_Point y0), (1, .sl 1 e_u8 y1), (9, .int .i64 (.v a13)), (10, .int .i64 (.v a15))], [], []⟩) ?_ (fun _ _ a15 x2 h hb2 hx2 => ?_)
                  · intro j0 hj
                    conv => cbv
                    subst hj
                    exact ⟨.same _, .same _, .same _, .int _ _ _ rfl, trivial⟩
                  · unfold jetsamlaw12_BlocksTable_L2 at h
                    conv => cbv
                    refine den_br h (fun _ h => ?_) (fun _ h => ?_)
                    · conv => cbv
                      refine .mk (by kernel_rfl) ?_
                      conv => cbv
                      refine den_elem h fun p16 _ h => ?_
                      conv => cbv
                      refine .mk ?_
                      conv => cbv
                      refine .mk ?_
                      conv => cbv
                      refine den_br h (fun _ h => ?_) (fun _ h => ?_)
                      · conv => cbv
                        refine den_elem h fun p17 _ h => ?_
                        conv => cbv
                        refine den_elem h fun p18 _ h => ?_
                        conv => cbv
                        refine .mk ?_
                        conv => cbv
                        refine den_br h (fun _ h => ?_) (fun _ h => ?_)
                        · conv => cbv
                          replace h := den_out h hx2
                          replace h := den_out h hx1
                          cases h
                          exact .bool _ _ rfl
                        · conv => cbv
                          refine den_back h hb2 fun j0 hj => ?_
                          conv => cbv
                          subst hj
                          exact ⟨.same _, .same _, .same _, .int _ _ _ rfl, trivial⟩
                      · conv => cbv
                        refine .mk ?_
                        conv => cbv
                        refine den_back h hb2 fun j0 hj => ?_
                        conv => cbv
                        subst hj
                        exact ⟨.same _, .same _, .same _, .int _ _ _ rfl, trivial⟩
                    · conv => cbv
                      replace h := den_out h hx2
                      refine den_join h fun j0 hj => ?_
                      conv => cbv
                      subst hj
                      exact ⟨.same _, .same _, .same _, trivial⟩
                · unfold jetsamlaw12_BlocksTable_K2 at h
                  conv => cbv
                  refine den_back h hb1 fun j0 hj => ?_
                  conv => cbv
                  subst hj
                  exact ⟨.same _, .same _, .int _ _ _ rfl, trivial⟩
              · conv => cbv
                replace h := den_out h hx1
                refine den_join h fun j0 hj => ?_
                conv => cbv
                subst hj
                exact ⟨.same _, trivial⟩
      · conv => cbv
        refine den_join h fun j0 hj => ?_
        conv => cbv
        subst hj
        exact ⟨.same _, trivial⟩
    · unfold jetsamlaw12_BlocksTable_K1 at h
      conv => cbv
      refine .mk ?_
      conv => cbv
      refine den_call (fun r : (List blocks_Point) × Int => .tup [(e_sl 3 e_blocks_Point) r.1, e_i64 r.2]) [(e_sl 1 e_u8) y1] h (fun _ h => hP ▸ v_blocks_Points h) (.cons _ _ _ _ (.same _) .nil) rfl rfl (fun _ => rfl) fun r4 _ h => ?_
      conv => cbv
      refine den_br h (fun _ h => ?_) (fun _ h => ?_)
      · conv => cbv
        refine .mk ?_
        conv => cbv
        refine den_br h (fun _ h => ?_) (fun _ h => ?_)
        · conv => cbv
          refine den_call e_bool [] h (fun _ h => hP ▸ v_jetsamlaw12_awake h) .nil rfl rfl (fun _ => rfl) fun r5 _ h => ?_
          conv => cbv
          cases h
          exact .same _
        · conv => cbv
          cases h
          exact .bool _ _ rfl
      · conv => cbv
        refine .mk ?_
        conv => cbv
        refine den_call (fun r : (List Int) × Int => .tup [(e_sl 1 e_u8) r.1, e_i64 r.2]) [(e_sl 3 e_blocks_Point) r4.1] h (fun _ h => hP ▸ v_blocks_WritePoints h) (.cons _ _ _ _ (.same _) .nil) rfl rfl (fun _ => rfl) fun r6 _ h => ?_
        conv => cbv
        refine .mk ?_
        conv => cbv
        refine den_br h (fun _ h => ?_) (fun _ h => ?_)
        · conv => cbv
          refine den_call e_bool [(e_sl 1 e_u8) r6.1, (e_sl 1 e_u8) y1] h (fun _ h => hP ▸ v_jetsamlaw11_Bytes h) (.cons _ _ _ _ (.same _) (.cons _ _ _ _ (.same _) .nil)) rfl rfl (fun _ => rfl) fun r7 _ h => ?_
          conv => cbv
          refine den_br h (fun _ h => ?_) (fun _ h => ?_)
          · conv => cbv
            refine den_call e_bool [] h (fun _ h => hP ▸ v_jetsamlaw12_awake h) .nil rfl rfl (fun _ => rfl) fun r8 _ h => ?_
            conv => cbv
            cases h
            exact .same _
          · conv => cbv
            cases h
            exact .bool _ _ rfl
        · conv => cbv
          cases h
          exact .bool _ _ rfl
def T_blocks_Read : Tab := [(3, ⟨.int .i64, 1, 8, [.int .i64 (.lit 0)]⟩), (5, ⟨.int .u8, 1, 1, [.int .u8 (.lit 0)]⟩), (35, ⟨.slice 5, 1, 24, [.nilsl]⟩), (37, ⟨.struct [(0, 3), (1, 35)], 2, 32, [.int .i64 (.lit 0), .nilsl]⟩), (55, ⟨.slice 37, 1, 24, [.nilsl]⟩)]
theorem T_blocks_Read_ok : TabOk Try.prog T_blocks_Read := by
  have h : T_blocks_Read = tabOf Try.prog [3, 5, 35, 37, 55] := by kernel_rfl
  rw [h]; exact tabOk_of (by kernel_rfl)
theorem v_blocks_Read {y0 : List Int} {r : (List blocks_Block) × Int × Int} (h : blocks_Read y0 = some r) : AVal Try.prog [] 26 [(e_sl 1 e_u8) y0] (.tup [(e_sl 2 e_blocks_Block) r.1, e_i64 r.2.1, e_i64 r.2.2]) := by
  refine aval_of (c := ⟨T_blocks_Read, [], 60, [], []⟩) Try.func26 (by kernel_rfl) rfl rfl rfl T_blocks_Read_ok (eqsOk_of (by kernel_rfl)) Try_mixed rfl fun P hP _ => ?_
  unfold blocks_Read at h
  conv => cbv
  refine den_cut (r := r) (fun j1 : Int × (List blocks_Block) => ⟨[(5, .osl 52), (6, .int .i64 (.v j1.1))], [(52, .arr false 37 2 e_blocks_Block j1.2)], []⟩) blocks_Read_K1 ?_ (fun j1 h => ?_)
  · conv => cbv
    refine den_loop (blocks_Read_L1 y0) h (fun a2 : Int × (List blocks_Block) => ⟨[(0, .sl 1 e_u8 y0), (5, .osl 52), (6, .int .i64 (.v a2.1))], [(52, .arr false 37 2 e_blocks_Block a2.2)], []⟩) ?_ (fun _ _ a2 x1 h hb1 hx1 => ?_)
    · intro j0 hj
      conv => cbv
      subst hj
      exact ⟨⟨.arr _ _ _ _ _ _ rfl, trivial⟩, .same _, .own _ _ _ _ _ _ rfl rfl, .int _ _ _ rfl, trivial⟩
    · unfold blocks_Read_L1 at h
      conv => cbv
      refine den_br h (fun _ h => ?_) (fun _ h => ?_)
      · conv => cbv
        replace h := den_out h hx1
        cases h
        exact .tup _ _ (.cons _ _ _ _ (.nil _ _ _ rfl) (.cons _ _ _ _ (.int _ _ _ rfl) (.cons _ _ _ _ (.int _ _ _ rfl) .nil)))
      · conv => cbv
        refine .mk ?_
        conv => cbv
        refine den_elem h fun p3 _ h => ?_
        conv => cbv
        refine .mk ?_
        conv => cbv
        refine den_sub h fun l4 _ h => ?_
        conv => cbv
        refine den_call e_i64 [(e_sl 1 e_u8) l4] h (fun _ h => hP ▸ v_blocks_number h) (.cons _ _ _ _ (.same _) .nil) rfl rfl (fun _ => rfl) fun r5 _ h => ?_
        conv => cbv
        refine .mk ?_
        conv => cbv
        refine den_br h (fun _ h => ?_) (fun _ h => ?_)
        · conv => cbv
          replace h := den_out h hx1
          cases h
          exact .tup _ _ (.cons _ _ _ _ (.nil _ _ _ rfl) (.cons _ _ _ _ (.int _ _ _ rfl) (.cons _ _ _ _ (.int _ _ _ rfl) .nil)))
        · conv => cbv
          refine den_br h (fun _ h => ?_) (fun _ h => ?_)
          · conv => cbv
            replace h := den_out h hx1
            cases h
            exact .tup _ _ (.cons _ _ _ _ (.nil _ _ _ rfl) (.cons _ _ _ _ (.int _ _ _ rfl) (.cons _ _ _ _ (.int _ _ _ rfl) .nil)))
          · conv => cbv
            refine .mk ?_
            conv => cbv
            refine .mk ?_
            conv => cbv
            refine den_sub h fun l6 _ h => ?_
            conv => cbv
            refine den_call (e_sl 1 e_u8) [(e_sl 1 e_u8) l6] h (fun _ h => hP ▸ v_slices_Clone_sbyte_byte h) (.cons _ _ _ _ (.same _) .nil) rfl rfl (fun _ => rfl) fun r7 _ h => ?_
            conv => cbv
            refine den_app_own e_blocks_Block (xs := [(⟨(p3.tmod 128), r7⟩ : blocks_Block)]) h rfl (News.sls (.cons _ _ _ _ (VEq.of_lepl (.cons _ _ _ _ (.int _ _ _ rfl) (.cons _ _ _ _ (.sl _ _ _ _ rfl) .nil)) rfl) .nil)) fun l8 _ h => ?_
            conv => cbv
            refine den_br h (fun _ h => ?_) (fun _ h => ?_)
            · conv => cbv
              replace h := den_out h hx1
              refine den_join h fun j0 hj => ?_
              conv => cbv
              subst hj
              exact ⟨⟨.arr _ _ _ _ _ _ rfl, trivial⟩, .same _, .int _ _ _ rfl, trivial⟩
            · conv => cbv
              refine den_back h hb1 fun j0 hj => ?_
              conv => cbv
              subst hj
              exact ⟨⟨.arr _ _ _ _ _ _ rfl, trivial⟩, .same _, .same _, .int _ _ _ rfl, trivial⟩
  · unfold blocks_Read_K1 at h
    conv => cbv
    cases h
    exact .tup _ _ (.cons _ _ _ _ (.same _) (.cons _ _ _ _ (.same _) (.cons _ _ _ _ (.int _ _ _ rfl) .nil)))
def T_jetsamref12_Read : Tab := [(3, ⟨.int .i64, 1, 8, [.int .i64 (.lit 0)]⟩), (5, ⟨.int .u8, 1, 1, [.int .u8 (.lit 0)]⟩), (24, ⟨.slice 3, 1, 24, [.nilsl]⟩), (35, ⟨.slice 5, 1, 24, [.nilsl]⟩), (58, ⟨.slice 35, 1, 24, [.nilsl]⟩)]
theorem T_jetsamref12_Read_ok : TabOk Try.prog T_jetsamref12_Read := by
  have h : T_jetsamref12_Read = tabOf Try.prog [3, 5, 24, 35, 58] := by kernel_rfl
  rw [h]; exact tabOk_of (by kernel_rfl)
theorem v_jetsamref12_Read {y0 : List Int} {r : (List Int) × (List (List Int)) × Int × Int} (h : jetsamref12_Read y0 = some r) : AVal Try.prog [] 27 [(e_sl 1 e_u8) y0] (.tup [(e_sl 1 e_i64) r.1, (e_sl 1 (e_sl 1 e_u8)) r.2.1, e_i64 r.2.2.1, e_i64 r.2.2.2]) := by
  refine aval_of (c := ⟨T_jetsamref12_Read, [], 85, [], []⟩) Try.func27 (by kernel_rfl) rfl rfl rfl T_jetsamref12_Read_ok (eqsOk_of (by kernel_rfl)) Try_mixed rfl fun P hP _ => ?_
  unfold jetsamref12_Read at h
  conv => cbv
  refine den_loop (jetsamref12_Read_L1 y0) h (fun a1 : Int × (List Int) × (List (List Int)) => ⟨[(0, .sl 1 e_u8 y0), (6, .osl 71), (7, .osl 75), (8, .int .i64 (.v a1.1))], [(71, .arr false 3 1 e_i64 a1.2.1), (75, .arr false 35 1 (e_sl 1 e_u8) a1.2.2)], []⟩) ?_ (fun _ _ a1 x1 h hb1 hx1 => ?_)
  · intro j0 hj
    conv => cbv
    subst hj
    exact ⟨⟨.arr _ _ _ _ _ _ rfl, .arr _ _ _ _ _ _ rfl, trivial⟩, .same _, .own _ _ _ _ _ _ rfl rfl, .own _ _ _ _ _ _ rfl rfl, .int _ _ _ rfl, trivial⟩
  · unfold jetsamref12_Read_L1 at h
    conv => cbv
    refine den_br h (fun _ h => ?_) (fun _ h => ?_)
    · conv => cbv
      replace h := den_out h hx1
      cases h
      exact .tup _ _ (.cons _ _ _ _ (.nil _ _ _ rfl) (.cons _ _ _ _ (.nil _ _ _ rfl) (.cons _ _ _ _ (.int _ _ _ rfl) (.cons _ _ _ _ (.int _ _ _ rfl) .nil))))
    · conv => cbv
      refine .mk (by kernel_rfl) ?_
      conv => cbv
      refine den_elem h fun p2 _ h => ?_
      conv => cbv
      refine .mk ?_
      conv => cbv
      refine den_elem h fun p3 _ h => ?_
      conv => cbv
      refine .mk ?_
      conv => cbv
      refine .mk ?_
      conv => cbv
      refine den_elem h fun p4 _ h => ?_
      conv => cbv
      refine .mk ?_
      conv => cbv
      refine den_br h (fun _ h => ?_) (fun _ h => ?_)
      · conv => cbv
        replace h := den_out h hx1
        cases h
        exact .tup _ _ (.cons _ _ _ _ (.nil _ _ _ rfl) (.cons _ _ _ _ (.nil _ _ _ rfl) (.cons _ _ _ _ (.int _ _ _ rfl) (.cons _ _ _ _ (.int _ _ _ rfl) .nil))))
      · conv => cbv
        refine .mk ?_
        conv => cbv
        refine den_elem h fun p5 _ h => ?_
        conv => cbv
        refine .mk ?_
        conv => cbv
        refine den_br h (fun _ h => ?_) (fun _ h => ?_)
        · conv => cbv
          replace h := den_out h hx1
          cases h
          exact .tup _ _ (.cons _ _ _ _ (.nil _ _ _ rfl) (.cons _ _ _ _ (.nil _ _ _ rfl) (.cons _ _ _ _ (.int _ _ _ rfl) (.cons _ _ _ _ (.int _ _ _ rfl) .nil))))
        · conv => cbv
          refine .mk ?_
          conv => cbv
          refine den_sub h fun l6 _ h => ?_
          conv => cbv
          refine den_app_nil e_u8 (xs := l6) h (News.map rfl) fun l7 _ h => ?_
          conv => cbv
          refine .mk ?_
          conv => cbv
          refine den_app_own e_i64 (xs := [(p5.tmod 128)]) h rfl (News.sls (.cons _ _ _ _ (VEq.of_lepl (.cons _ _ _ _ (.int _ _ _ rfl) .nil) rfl) .nil)) fun l8 _ h => ?_
          conv => cbv
          refine den_app_own (e_sl 1 e_u8) (xs := [l7]) h rfl (News.sls (.cons _ _ _ _ (VEq.of_lepl (.cons _ _ _ _ (.same _) .nil) rfl) .nil)) fun l9 _ h => ?_
          conv => cbv
          refine den_br h (fun _ h => ?_) (fun _ h => ?_)
          · conv => cbv
            refine .mk ?_
            conv => cbv
            replace h := den_out h hx1
            cases h
            exact .tup _ _ (.cons _ _ _ _ (.same _) (.cons _ _ _ _ (.same _) (.cons _ _ _ _ (.int _ _ _ rfl) (.cons _ _ _ _ (.int _ _ _ rfl) .nil))))
          · conv => cbv
            refine den_back h hb1 fun j0 hj => ?_
            conv => cbv
            subst hj
            exact ⟨⟨.arr _ _ _ _ _ _ rfl, .arr _ _ _ _ _ _ rfl, trivial⟩, .same _, .same _, .same _, .int _ _ _ rfl, trivial⟩
def T_jetsamlaw12_Plain : Tab := [(3, ⟨.int .i64, 1, 8, [.int .i64 (.lit 0)]⟩), (24, ⟨.slice 3, 1, 24, [.nilsl]⟩), (35, ⟨.slice 5, 1, 24, [.nilsl]⟩), (37, ⟨.struct [(0, 3), (1, 35)], 2, 32, [.int .i64 (.lit 0), .nilsl]⟩), (55, ⟨.slice 37, 1, 24, [.nilsl]⟩), (58, ⟨.slice 35, 1, 24, [.nilsl]⟩)]
theorem T_jetsamlaw12_Plain_ok : TabOk Try.prog T_jetsamlaw12_Plain := by
  have h : T_jetsamlaw12_Plain = tabOf Try.prog [3, 24, 35, 37, 55, 58] := by kernel_rfl
  rw [h]; exact tabOk_of (by kernel_rfl)
theorem v_jetsamlaw12_Plain {y0 : List blocks_Block} {r : (List Int) × (List (List Int))} (h : jetsamlaw12_Plain y0 = some r) : AVal Try.prog [] 28 [(e_sl 2 e_blocks_Block) y0] (.tup [(e_sl 1 e_i64) r.1, (e_sl 1 (e_sl 1 e_u8)) r.2]) := by
  refine aval_of (c := ⟨T_jetsamlaw12_Plain, [], 31, [], []⟩) Try.func28 (by kernel_rfl) rfl rfl rfl T_jetsamlaw12_Plain_ok (eqsOk_of (by kernel_rfl)) Try_mixed rfl fun P hP _ => ?_
  unfold jetsamlaw12_Plain at h
  conv => cbv
  refine den_cut (r := r) (fun j1 : (List Int) × (List (List Int)) => ⟨[(4, .osl 20), (5, .osl 28)], [(20, .arr false 3 1 e_i64 j1.1), (28, .arr false 35 1 (e_sl 1 e_u8) j1.2)], []⟩) jetsamlaw12_Plain_K1 ?_ (fun j1 h => ?_)
  · conv => cbv
    refine den_loop (jetsamlaw12_Plain_L1 y0) h (fun a2 : Int × (List Int) × (List (List Int)) => ⟨[(0, .sl 2 e_blocks_Block y0), (4, .osl 20), (5, .osl 28), (6, .int .i64 (.v a2.1))], [(20, .arr false 3 1 e_i64 a2.2.1), (28, .arr false 35 1 (e_sl 1 e_u8) a2.2.2)], []⟩) ?_ (fun _ _ a2 x1 h hb1 hx1 => ?_)
    · intro j0 hj
      conv => cbv
      subst hj
      exact ⟨⟨.arr _ _ _ _ _ _ rfl, .arr _ _ _ _ _ _ rfl, trivial⟩, .same _, .own _ _ _ _ _ _ rfl rfl, .own _ _ _ _ _ _ rfl rfl, .int _ _ _ rfl, trivial⟩
    · unfold jetsamlaw12_Plain_L1 at h
      conv => cbv
      refine den_br h (fun _ h => ?_) (fun _ h => ?_)
      · conv => cbv
        refine .mk ?_
        conv => cbv
        refine den_elem h fun p3 _ h => ?_
        conv => cbv
        refine den_app_own e_i64 (xs := [p3.m_Type]) h rfl (News.sls (.cons _ _ _ _ (VEq.of_lepl (.cons _ _ _ _ (.same _) .nil) rfl) .nil)) fun l4 _ h => ?_
        conv => cbv
        refine .mk ?_
        conv => cbv
        refine den_elem h fun p5 _ h => ?_
        conv => cbv
        refine den_app_own (e_sl 1 e_u8) (xs := [p5.Data]) h rfl (News.sls (.cons _ _ _ _ (VEq.of_lepl (.cons _ _ _ _ (.same _) .nil) rfl) .nil)) fun l6 _ h => ?_
        conv => cbv
        refine den_back h hb1 fun j0 hj => ?_
        conv => cbv
        subst hj
        exact ⟨⟨.arr _ _ _ _ _ _ rfl, .arr _ _ _ _ _ _ rfl, trivial⟩, .same _, .same _, .same _, .int _ _ _ rfl, trivial⟩
      · conv => cbv
        replace h := den_out h hx1
        refine den_join h fun j0 hj => ?_
        conv => cbv
        subst hj
        exact ⟨⟨.arr _ _ _ _ _ _ rfl, .arr _ _ _ _ _ _ rfl, trivial⟩, .same _, .same _, trivial⟩
  · unfold jetsamlaw12_Plain_K1 at h
    conv => cbv
    cases h
    exact .same _
def T_jetsamlaw12_BlocksReads : Tab := [(3, ⟨.int .i64, 1, 8, [.int .i64 (.lit 0)]⟩), (24, ⟨.slice 3, 1, 24, [.nilsl]⟩), (35, ⟨.slice 5, 1, 24, [.nilsl]⟩), (58, ⟨.slice 35, 1, 24, [.nilsl]⟩)]
theorem T_jetsamlaw12_BlocksReads_ok : TabOk Try.prog T_jetsamlaw12_BlocksReads := by
  have h : T_jetsamlaw12_BlocksReads = tabOf Try.prog [3, 24, 35, 58] := by kernel_rfl
  rw [h]; exact tabOk_of (by kernel_rfl)
theorem v_jetsamlaw12_BlocksReads {y0 : List Int} {r : Bool} (h : jetsamlaw12_BlocksReads y0 = some r) : AVal Try.prog [] 8 [(e_sl 1 e_u8) y0] (e_bool r) := by
  refine aval_of (c := ⟨T_jetsamlaw12_BlocksReads, [], 78, [], []⟩) Try.func8 (by kernel_rfl) rfl rfl rfl T_jetsamlaw12_BlocksReads_ok (eqsOk_of (by kernel_rfl)) Try_mixed rfl fun P hP _ => ?_
  unfold jetsamlaw12_BlocksReads at h
  conv => cbv
  refine den_br h (fun _ h => ?_) (fun _ h => ?_)
  · conv => cbv
    refine den_call e_bool [] h (fun _ h => hP ▸ v_jetsamlaw12_awake h) .nil rfl rfl (fun _ => rfl) fun r1 _ h => ?_
    conv => cbv
    cases h
    exact .same _
  · conv => cbv
    refine den_call (fun r : (List blocks_Block) × Int × Int => .tup [(e_sl 2 e_blocks_Block) r.1, e_i64 r.2.1, e_i64 r.2.2]) [(e_sl 1 e_u8) y0] h (fun _ h => hP ▸ v_blocks_Read h) (.cons _ _ _ _ (.same _) .nil) rfl rfl (fun _ => rfl) fun r2 _ h => ?_
    conv => cbv
    refine .mk ?_
    conv => cbv
    refine den_call (fun r : (List Int) × (List (List Int)) × Int × Int => .tup [(e_sl 1 e_i64) r.1, (e_sl 1 (e_sl 1 e_u8)) r.2.1, e_i64 r.2.2.1, e_i64 r.2.2.2]) [(e_sl 1 e_u8) y0] h (fun _ h => hP ▸ v_jetsamref12_Read h) (.cons _ _ _ _ (.same _) .nil) rfl rfl (fun _ => rfl) fun r3 _ h => ?_
    conv => cbv
    refine .mk ?_
    conv => cbv
    refine .mk ?_
    conv => cbv
    refine den_call (fun r : (List Int) × (List (List Int)) => .tup [(e_sl 1 e_i64) r.1, (e_sl 1 (e_sl 1 e_u8)) r.2]) [(e_sl 2 e_blocks_Block) r2.1] h (fun _ h => hP ▸ v_jetsamlaw12_Plain h) (.cons _ _ _ _ (.same _) .nil) rfl rfl (fun _ => rfl) fun r4 _ h => ?_
    conv => cbv
    refine .mk ?_
    conv => cbv
    refine .mk ?_
    conv => cbv
    refine den_br h (fun _ h => ?_) (fun _ h => ?_)
    · conv => cbv
      cases h
      exact .bool _ _ rfl
    · conv => cbv
      refine den_cut (r := r) (fun j5 : Unit => ⟨[], [], []⟩) jetsamlaw12_BlocksReads_K1 ?_ (fun j5 h => ?_)
      · conv => cbv
        refine den_loop (jetsamlaw12_BlocksReads_L1 r3 r4) h (fun a7 : Int => ⟨[(6, .sl 1 e_i64 r3.1), (7, .sl 1 (e_sl 1 e_u8) r3.2.1), (10, .sl 1 e_i64 r4.1), (11, .sl 1 (e_sl 1 e_u8) r4.2), (12, .int .i64 (.v a7))], [], []⟩) ?_ (fun _ _ a7 x1 h hb1 hx1 => ?_)
        · intro j0 hj
          conv => cbv
          subst hj
          exact ⟨.same _, .same _, .same _, .same _, .int _ _ _ rfl, trivial⟩
        · unfold jetsamlaw12_BlocksReads_L1 at h
          conv => cbv
          refine den_br h (fun _ h => ?_) (fun _ h => ?_)
          · conv => cbv
            refine .mk (by kernel_rfl) ?_
            conv => cbv
            refine den_elem h fun p8 _ h => ?_
            conv => cbv
            refine .mk ?_
            conv => cbv
            refine den_elem h fun p9 _ h => ?_
            conv => cbv
            refine .mk ?_
            conv => cbv
            refine den_br h (fun _ h => ?_) (fun _ h => ?_)
            · conv => cbv
              refine .mk ?_
              conv => cbv
              replace h := den_out h hx1
              cases h
              exact .bool _ _ rfl
            · conv => cbv
              refine den_elem h fun p10 _ h => ?_
              conv => cbv
              refine den_elem h fun p11 _ h => ?_
              conv => cbv
              refine .mk ?_
              conv => cbv
              refine den_call e_bool [(e_sl 1 e_u8) p10, (e_sl 1 e_u8) p11] h (fun _ h => hP ▸ v_jetsamlaw11_Bytes h) (.cons _ _ _ _ (.same _) (.cons _ _ _ _ (.same _) .nil)) rfl rfl (fun _ => rfl) fun r12 _ h => ?_
              conv => cbv
              refine den_br h (fun _ h => ?_) (fun _ h => ?_)
              · conv => cbv
                replace h := den_out h hx1
                cases h
                exact .bool _ _ rfl
              · conv => cbv
                refine den_back h hb1 fun j0 hj => ?_
                conv => cbv
                subst hj
                exact ⟨.same _, .same _, .same _, .same _, .int _ _ _ rfl, trivial⟩
          · conv => cbv
            replace h := den_out h hx1
            refine den_join h fun j0 hj => ?_
            conv => cbv
            subst hj
            exact trivial
      · unfold jetsamlaw12_BlocksReads_K1 at h
        conv => cbv
        refine den_call e_bool [] h (fun _ h => hP ▸ v_jetsamlaw12_awake h) .nil rfl rfl (fun _ => rfl) fun r6 _ h => ?_
        conv => cbv
        cases h
        exact .same _
def T_jetsamlaw12_Few : Tab := [(35, ⟨.slice 5, 1, 24, [.nilsl]⟩), (37, ⟨.struct [(0, 3), (1, 35)], 2, 32, [.int .i64 (.lit 0), .nilsl]⟩), (55, ⟨.slice 37, 1, 24, [.nilsl]⟩)]
theorem T_jetsamlaw12_Few_ok : TabOk Try.prog T_jetsamlaw12_Few := by
  have h : T_jetsamlaw12_Few = tabOf Try.prog [35, 37, 55] := by kernel_rfl
  rw [h]; exact tabOk_of (by kernel_rfl)
theorem v_jetsamlaw12_Few {y0 : List blocks_Block} {r : Bool} (h : jetsamlaw12_Few y0 = some r) : AVal Try.prog [] 29 [(e_sl 2 e_blocks_Block) y0] (e_bool r) := by
  refine aval_of (c := ⟨T_jetsamlaw12_Few, [], 20, [], []⟩) Try.func29 (by kernel_rfl) rfl rfl rfl T_jetsamlaw12_Few_ok (eqsOk_of (by kernel_rfl)) Try_mixed rfl fun P hP _ => ?_
  unfold jetsamlaw12_Few at h
  conv => cbv
  refine den_cut (r := r) (fun j1 : Unit => ⟨[(0, .sl 2 e_blocks_Block y0)], [], []⟩) (jetsamlaw12_Few_K1 y0) ?_ (fun j1 h => ?_)
  · conv => cbv
    refine den_loop (jetsamlaw12_Few_L1 y0) h (fun a2 : Int => ⟨[(0, .sl 2 e_blocks_Block y0), (3, .int .i64 (.v a2))], [], []⟩) ?_ (fun _ _ a2 x1 h hb1 hx1 => ?_)
    · intro j0 hj
      conv => cbv
      subst hj
      exact ⟨.same _, .int _ _ _ rfl, trivial⟩
    · unfold jetsamlaw12_Few_L1 at h
      conv => cbv
      refine den_br h (fun _ h => ?_) (fun _ h => ?_)
      · conv => cbv
        refine .mk ?_
        conv => cbv
        refine den_elem h fun p3 _ h => ?_
        conv => cbv
        refine den_br h (fun _ h => ?_) (fun _ h => ?_)
        · conv => cbv
          replace h := den_out h hx1
          cases h
          exact .bool _ _ rfl
        · conv => cbv
          refine den_back h hb1 fun j0 hj => ?_
          conv => cbv
          subst hj
          exact ⟨.same _, .int _ _ _ rfl, trivial⟩
      · conv => cbv
        replace h := den_out h hx1
        refine den_join h fun j0 hj => ?_
        conv => cbv
        subst hj
        exact ⟨.same _, trivial⟩
  · unfold jetsamlaw12_Few_K1 at h
    conv => cbv
    cases h
    exact .bool _ _ rfl
def T_jetsamlaw12_Same : Tab := [(3, ⟨.int .i64, 1, 8, [.int .i64 (.lit 0)]⟩), (35, ⟨.slice 5, 1, 24, [.nilsl]⟩), (37, ⟨.struct [(0, 3), (1, 35)], 2, 32, [.int .i64 (.lit 0), .nilsl]⟩), (55, ⟨.slice 37, 1, 24, [.nilsl]⟩)]
theorem T_jetsamlaw12_Same_ok : TabOk Try.prog T_jetsamlaw12_Same := by
  have h : T_jetsamlaw12_Same = tabOf Try.prog [3, 35, 37, 55] := by kernel_rfl
  rw [h]; exact tabOk_of (by kernel_rfl)
theorem v_jetsamlaw12_Same {y0 : List blocks_Block} {y1 : List blocks_Block} {r : Bool} (h : jetsamlaw12_Same y0 y1 = some r) : AVal Try.prog [] 31 [(e_sl 2 e_blocks_Block) y0, (e_sl 2 e_blocks_Block) y1] (e_bool r) := by
  refine aval_of (c := ⟨T_jetsamlaw12_Same, [], 42, [], []⟩) Try.func31 (by kernel_rfl) rfl rfl rfl T_jetsamlaw12_Same_ok (eqsOk_of (by kernel_rfl)) Try_mixed rfl fun P hP _ => ?_
  unfold jetsamlaw12_Same at h
  conv => cbv
  refine den_br h (fun _ h => ?_) (fun _ h => ?_)
  · conv => cbv
    cases h
    exact .bool _ _ rfl
  · conv => cbv
    refine den_cut (r := r) (fun j1 : Unit => ⟨[], [], []⟩) jetsamlaw12_Same_K1 ?_ (fun j1 h => ?_)
    · conv => cbv
      refine den_loop (jetsamlaw12_Same_L1 y0 y1) h (fun a2 : Int => ⟨[(0, .sl 2 e_blocks_Block y0), (1, .sl 2 e_blocks_Block y1), (5, .int .i64 (.v a2))], [], []⟩) ?_ (fun _ _ a2 x1 h hb1 hx1 => ?_)
      · intro j0 hj
        conv => cbv
        subst hj
        exact ⟨.same _, .same _, .int _ _ _ rfl, trivial⟩
      · unfold jetsamlaw12_Same_L1 at h
        conv => cbv
        refine den_br h (fun _ h => ?_) (fun _ h => ?_)
        · conv => cbv
          refine .mk (by kernel_rfl) ?_
          conv => cbv
          refine den_elem h fun p3 _ h => ?_
          conv => cbv
          refine .mk ?_
          conv => cbv
          refine den_elem h fun p4 _ h => ?_
          conv => cbv
          refine .mk ?_
          conv => cbv
          refine den_br h (fun _ h => ?_) (fun _ h => ?_)
          · conv => cbv
            refine .mk ?_
            conv => cbv
            refine .mk ?_
            conv => cbv
            replace h := den_out h hx1
            cases h
            exact .bool _ _ rfl
          · conv => cbv
            refine den_elem h fun p5 _ h => ?_
            conv => cbv
            refine .mk ?_
            conv => cbv
            refine den_elem h fun p6 _ h => ?_
            conv => cbv
            refine den_call e_bool [(e_sl 1 e_u8) p5.Data, (e_sl 1 e_u8) p6.Data] h (fun _ h => hP ▸ v_jetsamlaw11_Bytes h) (.cons _ _ _ _ (.same _) (.cons _ _ _ _ (.same _) .nil)) rfl rfl (fun _ => rfl) fun r7 _ h => ?_
            conv => cbv
            refine .mk ?_
            conv => cbv
            refine den_br h (fun _ h => ?_) (fun _ h => ?_)
            · conv => cbv
              replace h := den_out h hx1
              cases h
              exact .bool _ _ rfl
            · conv => cbv
              refine den_back h hb1 fun j0 hj => ?_
              conv => cbv
              subst hj
              exact ⟨.same _, .same _, .int _ _ _ rfl, trivial⟩
        · conv => cbv
          replace h := den_out h hx1
          refine den_join h fun j0 hj => ?_
          conv => cbv
          subst hj
          exact trivial
    · unfold jetsamlaw12_Same_K1 at h
      conv => cbv
      cases h
      exact .bool _ _ rfl
def T_jetsamlaw12_BlocksBack : Tab := [(5, ⟨.int .u8, 1, 1, [.int .u8 (.lit 0)]⟩), (35, ⟨.slice 5, 1, 24, [.nilsl]⟩), (55, ⟨.slice 37, 1, 24, [.nilsl]⟩)]
theorem T_jetsamlaw12_BlocksBack_ok : TabOk Try.prog T_jetsamlaw12_BlocksBack := by
  have h : T_jetsamlaw12_BlocksBack = tabOf Try.prog [5, 35, 55] := by kernel_rfl
  rw [h]; exact tabOk_of (by kernel_rfl)
theorem v_jetsamlaw12_BlocksBack {y0 : List blocks_Block} {y1 : List Int} {r : Bool} (h : jetsamlaw12_BlocksBack y0 y1 = some r) : AVal Try.prog [] 9 [(e_sl 2 e_blocks_Block) y0, (e_sl 1 e_u8) y1] (e_bool r) := by
  refine aval_of (c := ⟨T_jetsamlaw12_BlocksBack, [], 119, [], []⟩) Try.func9 (by kernel_rfl) rfl rfl rfl T_jetsamlaw12_BlocksBack_ok (eqsOk_of (by kernel_rfl)) Try_mixed rfl fun P hP _ => ?_
  unfold jetsamlaw12_BlocksBack at h
  conv => cbv
  refine den_call e_bool [(e_sl 2 e_blocks_Block) y0] h (fun _ h => hP ▸ v_jetsamlaw12_Few h) (.cons _ _ _ _ (.same _) .nil) rfl rfl (fun _ => rfl) fun r1 _ h => ?_
  conv => cbv
  refine .mk ?_
  conv => cbv
  refine den_br h (fun _ h => ?_) (fun _ h => ?_)
  · conv => cbv
    refine den_call e_bool [] h (fun _ h => hP ▸ v_jetsamlaw12_awake h) .nil rfl rfl (fun _ => rfl) fun r2 _ h => ?_
    conv => cbv
    cases h
    exact .same _
  · conv => cbv
    refine .mk ?_
    conv => cbv
    refine den_call (fun r : (List Int) × Int => .tup [(e_sl 1 e_u8) r.1, e_i64 r.2]) [(e_sl 2 e_blocks_Block) y0] h (fun _ h => hP ▸ v_blocks_Write h) (.cons _ _ _ _ (.same _) .nil) rfl rfl (fun _ => rfl) fun r3 _ h => ?_
    conv => cbv
    refine den_cut (r := r) (fun j4 : Unit => ⟨[(1, .sl 1 e_u8 y1)], [], []⟩) (jetsamlaw12_BlocksBack_K1 y1) ?_ (fun j4 h => ?_)
    · conv => cbv
      refine den_br h (fun _ h => ?_) (fun _ h => ?_)
      · conv => cbv
        refine den_app_nil e_u8 (xs := r3.1) h (News.map rfl) fun l11 _ h => ?_
        conv => cbv
        refine den_app_own e_u8 (xs := y1) h rfl (News.map rfl) fun l12 _ h => ?_
        conv => cbv
        refine den_call (fun r : (List blocks_Block) × Int × Int => .tup [(e_sl 2 e_blocks_Block) r.1, e_i64 r.2.1, e_i64 r.2.2]) [(e_sl 1 e_u8) l12] h (fun _ h => hP ▸ v_blocks_Read h) (.cons _ _ _ _ (.same _) .nil) rfl rfl (fun _ => rfl) fun r13 _ h => ?_
        conv => cbv
        refine .mk ?_
        conv => cbv
        refine .mk ?_
        conv => cbv
        refine .mk ?_
        conv => cbv
        refine den_br h (fun _ h => ?_) (fun _ h => ?_)
        · conv => cbv
          cases h
          exact .bool _ _ rfl
        · conv => cbv
          refine den_call e_bool [(e_sl 2 e_blocks_Block) r13.1, (e_sl 2 e_blocks_Block) y0] h (fun _ h => hP ▸ v_jetsamlaw12_Same h) (.cons _ _ _ _ (.same _) (.cons _ _ _ _ (.same _) .nil)) rfl rfl (fun _ => rfl) fun r14 _ h => ?_
          conv => cbv
          refine den_br h (fun _ h => ?_) (fun _ h => ?_)
          · conv => cbv
            cases h
            exact .bool _ _ rfl
          · conv => cbv
            refine .mk ?_
            conv => cbv
            refine den_sub h fun l15 _ h => ?_
            conv => cbv
            refine den_call (fun r : (List blocks_Block) × Int × Int => .tup [(e_sl 2 e_blocks_Block) r.1, e_i64 r.2.1, e_i64 r.2.2]) [(e_sl 1 e_u8) l15] h (fun _ h => hP ▸ v_blocks_Read h) (.cons _ _ _ _ (.same _) .nil) rfl rfl (fun _ => rfl) fun r16 _ h => ?_
            conv => cbv
            refine .mk ?_
            conv => cbv
            refine den_br h (fun _ h => ?_) (fun _ h => ?_)
            · conv => cbv
              cases h
              exact .bool _ _ rfl
            · conv => cbv
              refine den_join h fun j0 hj => ?_
              conv => cbv
              subst hj
              exact ⟨.same _, trivial⟩
      · conv => cbv
        refine den_join h fun j0 hj => ?_
        conv => cbv
        subst hj
        exact ⟨.same _, trivial⟩
    · unfold jetsamlaw12_BlocksBack_K1 at h
      conv => cbv
      refine den_call (fun r : (List blocks_Block) × Int × Int => .tup [(e_sl 2 e_blocks_Block) r.1, e_i64 r.2.1, e_i64 r.2.2]) [(e_sl 1 e_u8) y1] h (fun _ h => hP ▸ v_blocks_Read h) (.cons _ _ _ _ (.same _) .nil) rfl rfl (fun _ => rfl) fun r5 _ h => ?_
      conv => cbv
      refine .mk ?_
      conv => cbv
      refine den_br h (fun _ h => ?_) (fun _ h => ?_)
      · conv => cbv
        refine .mk ?_
        conv => cbv
        refine den_br h (fun _ h => ?_) (fun _ h => ?_)
        · conv => cbv
          refine den_call e_bool [] h (fun _ h => hP ▸ v_jetsamlaw12_awake h) .nil rfl rfl (fun _ => rfl) fun r6 _ h => ?_
          conv => cbv
          cases h
          exact .same _
        · conv => cbv
          cases h
          exact .bool _ _ rfl
      · conv => cbv
        refine .mk ?_
        conv => cbv
        refine den_call (fun r : (List Int) × Int => .tup [(e_sl 1 e_u8) r.1, e_i64 r.2]) [(e_sl 2 e_blocks_Block) r5.1] h (fun _ h => hP ▸ v_blocks_Write h) (.cons _ _ _ _ (.same _) .nil) rfl rfl (fun _ => rfl) fun r7 _ h => ?_
        conv => cbv
        refine .mk ?_
        conv => cbv
        refine .mk ?_
        conv => cbv
        refine den_br h (fun _ h => ?_) (fun _ h => ?_)
        · conv => cbv
          refine den_sub h fun l8 _ h => ?_
          conv => cbv
          refine .mk ?_
          conv => cbv
          refine den_call e_bool [(e_sl 1 e_u8) r7.1, (e_sl 1 e_u8) l8] h (fun _ h => hP ▸ v_jetsamlaw11_Bytes h) (.cons _ _ _ _ (.same _) (.cons _ _ _ _ (.same _) .nil)) rfl rfl (fun _ => rfl) fun r9 _ h => ?_
          conv => cbv
          refine den_br h (fun _ h => ?_) (fun _ h => ?_)
          · conv => cbv
            refine den_call e_bool [] h (fun _ h => hP ▸ v_jetsamlaw12_awake h) .nil rfl rfl (fun _ => rfl) fun r10 _ h => ?_
            conv => cbv
            cases h
            exact .same _
          · conv => cbv
            cases h
            exact .bool _ _ rfl
        · conv => cbv
          refine .mk ?_
          conv => cbv
          cases h
          exact .bool _ _ rfl
end Go.Proofs.Ytnapnedfhimikaa
