/- That the code answers so, printed by a program. -/
import Derived.Test.YtnapnedfhimikaaF1
import Derived.Test.YtnapnedfhimikaaProg
set_option maxRecDepth 4000
set_option linter.all false
set_option linter.unusedVariables false
set_option linter.unusedSimpArgs false
namespace Go.Proofs.Ytnapnedfhimikaa
open Go Go.Vg
theorem Try_mixed : Try.prog.follows .mixedOrders = true := by kernel_rfl
def T_math_bits_Mul64 : Tab := []
theorem T_math_bits_Mul64_ok : TabOk Try.prog T_math_bits_Mul64 := by
  have h : T_math_bits_Mul64 = tabOf Try.prog [] := by kernel_rfl
  rw [h]; exact tabOk_of (by kernel_rfl)
theorem v_math_bits_Mul64 {y0 : Int} {y1 : Int} {r : Int × Int} (h : math_bits_Mul64 y0 y1 = some r) : AVal Try.prog [] 49 [e_u64 y0, e_u64 y1] (.tup [e_u64 r.1, e_u64 r.2]) := by
  refine aval_of (c := ⟨T_math_bits_Mul64, [], 51, [], []⟩) Try.func49 (by kernel_rfl) rfl rfl rfl T_math_bits_Mul64_ok (eqsOk_of (by kernel_rfl)) Try_mixed rfl fun P hP _ => ?_
  unfold math_bits_Mul64 at h
  conv => cbv
  cases h
  exact .tup _ _ (.cons _ _ _ _ (.int _ _ _ rfl) (.cons _ _ _ _ (.int _ _ _ rfl) .nil))
def T_math_bits_Mul : Tab := []
theorem T_math_bits_Mul_ok : TabOk Try.prog T_math_bits_Mul := by
  have h : T_math_bits_Mul = tabOf Try.prog [] := by kernel_rfl
  rw [h]; exact tabOk_of (by kernel_rfl)
theorem v_math_bits_Mul {y0 : Int} {y1 : Int} {r : Int × Int} (h : math_bits_Mul y0 y1 = some r) : AVal Try.prog [] 44 [e_u64 y0, e_u64 y1] (.tup [e_u64 r.1, e_u64 r.2]) := by
  refine aval_of (c := ⟨T_math_bits_Mul, [], 30, [], []⟩) Try.func44 (by kernel_rfl) rfl rfl rfl T_math_bits_Mul_ok (eqsOk_of (by kernel_rfl)) Try_mixed rfl fun P hP _ => ?_
  unfold math_bits_Mul at h
  conv => cbv
  refine den_call (fun r : Int × Int => .tup [e_u64 r.1, e_u64 r.2]) [e_u64 y0, e_u64 y1] h (fun _ h => hP ▸ v_math_bits_Mul64 h) (.cons _ _ _ _ (.same _) (.cons _ _ _ _ (.same _) .nil)) rfl rfl (fun _ => rfl) fun r1 _ h => ?_
  conv => cbv
  cases h
  exact .same _
def Tw_slices_Repeat_sint_int : Tab := [(3, ⟨.int .i64, 1, 8, [.int .i64 (.lit 0)]⟩), (24, ⟨.slice 3, 1, 24, [.nilsl]⟩), (81, ⟨.int .u64, 1, 8, [.int .u64 (.lit 0)]⟩)]
theorem Tw_slices_Repeat_sint_int_ok : TabOk Try.prog Tw_slices_Repeat_sint_int := by
  have h : Tw_slices_Repeat_sint_int = tabOf Try.prog [3, 24, 81] := by kernel_rfl
  rw [h]; exact tabOk_of (by kernel_rfl)
theorem w_slices_Repeat_sint_int {y0 : List Int} {y1 : Int} {r : List Int} (h : slices_Repeat_sint_int y0 y1 = some r) : ACalls Try.prog [] 32 [(e_sl 1 e_i64) y0, e_i64 y1] [] (fun x o' => x = .osl 20000 ∧ o' = [(20000, .arr false 3 1 e_i64 r)]) := by
  refine acalls_of (c := ⟨Tw_slices_Repeat_sint_int, [], 48, [], []⟩) Try.func32 (by kernel_rfl) rfl rfl rfl Tw_slices_Repeat_sint_int_ok (eqsOk_of (by kernel_rfl)) Try_mixed rfl rfl rfl fun P hP _ => ?_
  unfold slices_Repeat_sint_int at h
  conv => cbv
  refine den_br h (fun _ h => ?_) (fun _ h => ?_)
  · conv => cbv
    exact den_none h
  · conv => cbv
    refine den_call (fun r : Int × Int => .tup [e_u64 r.1, e_u64 r.2]) [e_u64 (IntKind.u64.wrap (y0.length : Int)), e_u64 (IntKind.u64.wrap y1)] h (fun _ h => hP ▸ v_math_bits_Mul h) (.cons _ _ _ _ (.int _ _ _ rfl) (.cons _ _ _ _ (.int _ _ _ rfl) .nil)) rfl rfl (fun _ => rfl) fun r1 _ h => ?_
    conv => cbv
    refine den_br h (fun _ h => ?_) (fun _ h => ?_)
    · conv => cbv
      exact den_none h
    · conv => cbv
      refine den_make e_i64 (x := (0 : Int)) h (CEqL.of_lepl (.cons _ _ _ _ (.int _ _ _ rfl) .nil) rfl) fun l2 _ h => ?_
      conv => cbv
      refine den_copy e_i64 0 (l2.length : Int) (xs := y0) h rfl (.inl ⟨rfl, rfl, rfl⟩) (News.map rfl) (fun h => ?_) (fun c3 _ h => ?_)
      · conv => cbv
        refine den_cut (r := r) (fun j4 : (List Int) => ⟨[(7, .osl 30)], [(30, .arr false 3 1 e_i64 j4)], []⟩) slices_Repeat_sint_int_K1 ?_ (fun j4 h => ?_)
        · conv => cbv
          refine den_loop slices_Repeat_sint_int_L1 h (fun a5 : Int × (List Int) => ⟨[(7, .osl 30), (8, .int .i64 (.v a5.1))], [(30, .arr false 3 1 e_i64 a5.2)], []⟩) ?_ (fun _ _ a5 x1 h hb1 hx1 => ?_)
          · intro j0 hj
            conv => cbv
            subst hj
            exact ⟨⟨.arr _ _ _ _ _ _ rfl, trivial⟩, .same _, .int _ _ _ rfl, trivial⟩
          · unfold slices_Repeat_sint_int_L1 at h
            conv => cbv
            refine den_br h (fun _ h => ?_) (fun _ h => ?_)
            · conv => cbv
              refine den_view h fun l6 il6 ml6 hil6 hml6 _ h => ?_
              conv => cbv
              refine den_view h fun l7 il7 ml7 hil7 hml7 _ h => ?_
              conv => cbv
              subst hil6
              subst hml6
              subst hil7
              subst hml7
              refine den_copy e_i64 a5.1 ((a5.2.length : Int) - a5.1) (xs := ((a5.2.drop (0 : Int).toNat).take (a5.1 - 0 : Int).toNat)) h rfl (.inr ⟨_, _, rfl, rfl, rfl⟩) (News.map rfl) (fun h => ?_) (fun c8 _ h => ?_)
              · conv => cbv
                refine den_back h hb1 fun j0 hj => ?_
                conv => cbv
                subst hj
                exact ⟨⟨.same _, trivial⟩, .same _, .int _ _ _ rfl, trivial⟩
              · conv => cbv
                refine den_back h hb1 fun j0 hj => ?_
                conv => cbv
                subst hj
                exact ⟨⟨.arr _ _ _ _ _ _ rfl, trivial⟩, .same _, .int _ _ _ rfl, trivial⟩
            · conv => cbv
              replace h := den_out h hx1
              refine den_join h fun j0 hj => ?_
              conv => cbv
              subst hj
              exact ⟨⟨.arr _ _ _ _ _ _ rfl, trivial⟩, .same _, trivial⟩
        · unfold slices_Repeat_sint_int_K1 at h
          conv => cbv
          cases h
          refine .mk [(30, 20000, false)] [] rfl rfl ?_ ?_
          · conv => cbv
            exact ⟨.arr _ _ _ _ _ _ rfl, trivial⟩
          · conv => cbv
            exact .cons _ _ _ _ (.same _) .nil
      · conv => cbv
        refine den_cut (r := r) (fun j9 : (List Int) => ⟨[(7, .osl 30)], [(30, .arr false 3 1 e_i64 j9)], []⟩) slices_Repeat_sint_int_K2 ?_ (fun j9 h => ?_)
        · conv => cbv
          refine den_loop slices_Repeat_sint_int_L2 h (fun a10 : Int × (List Int) => ⟨[(7, .osl 30), (8, .int .i64 (.v a10.1))], [(30, .arr false 3 1 e_i64 a10.2)], []⟩) ?_ (fun _ _ a10 x1 h hb1 hx1 => ?_)
          · intro j0 hj
            conv => cbv
            subst hj
            exact ⟨⟨.arr _ _ _ _ _ _ rfl, trivial⟩, .same _, .int _ _ _ rfl, trivial⟩
          · unfold slices_Repeat_sint_int_L2 at h
            conv => cbv
            refine den_br h (fun _ h => ?_) (fun _ h => ?_)
            · conv => cbv
              refine den_view h fun l11 il11 ml11 hil11 hml11 _ h => ?_
              conv => cbv
              refine den_view h fun l12 il12 ml12 hil12 hml12 _ h => ?_
              conv => cbv
              subst hil11
              subst hml11
              subst hil12
              subst hml12
              refine den_copy e_i64 a10.1 ((a10.2.length : Int) - a10.1) (xs := ((a10.2.drop (0 : Int).toNat).take (a10.1 - 0 : Int).toNat)) h rfl (.inr ⟨_, _, rfl, rfl, rfl⟩) (News.map rfl) (fun h => ?_) (fun c13 _ h => ?_)
              · conv => cbv
                refine den_back h hb1 fun j0 hj => ?_
                conv => cbv
                subst hj
                exact ⟨⟨.same _, trivial⟩, .same _, .int _ _ _ rfl, trivial⟩
              · conv => cbv
                refine den_back h hb1 fun j0 hj => ?_
                conv => cbv
                subst hj
                exact ⟨⟨.arr _ _ _ _ _ _ rfl, trivial⟩, .same _, .int _ _ _ rfl, trivial⟩
            · conv => cbv
              replace h := den_out h hx1
              refine den_join h fun j0 hj => ?_
              conv => cbv
              subst hj
              exact ⟨⟨.arr _ _ _ _ _ _ rfl, trivial⟩, .same _, trivial⟩
        · unfold slices_Repeat_sint_int_K2 at h
          conv => cbv
          cases h
          refine .mk [(30, 20000, false)] [] rfl rfl ?_ ?_
          · conv => cbv
            exact ⟨.arr _ _ _ _ _ _ rfl, trivial⟩
          · conv => cbv
            exact .cons _ _ _ _ (.same _) .nil
def T_rebuild_Parts : Tab := [(3, ⟨.int .i64, 1, 8, [.int .i64 (.lit 0)]⟩), (24, ⟨.slice 3, 1, 24, [.nilsl]⟩)]
theorem T_rebuild_Parts_ok : TabOk Try.prog T_rebuild_Parts := by
  have h : T_rebuild_Parts = tabOf Try.prog [3, 24] := by kernel_rfl
  rw [h]; exact tabOk_of (by kernel_rfl)
theorem v_rebuild_Parts {y0 : Int} {r : List Int} (h : rebuild_Parts y0 = some r) : AVal Try.prog [] 12 [e_i64 y0] ((e_sl 1 e_i64) r) := by
  refine aval_of (c := ⟨T_rebuild_Parts, [], 32, [], []⟩) Try.func12 (by kernel_rfl) rfl rfl rfl T_rebuild_Parts_ok (eqsOk_of (by kernel_rfl)) Try_mixed rfl fun P hP _ => ?_
  unfold rebuild_Parts at h
  conv => cbv
  refine den_br h (fun _ h => ?_) (fun _ h => ?_)
  · conv => cbv
    cases h
    exact .nil _ _ _ rfl
  · conv => cbv
    refine den_chk h fun h => ?_
    conv => cbv
    refine den_own [(17, 20000, true)] [] (fun _ => .osl 20000) [] (fun r => [(20000, .arr false 3 1 e_i64 r)]) [(e_sl 1 e_i64) [(W (y0.tdiv (W ((W ((W (y0 + 4096)) - 1)).tdiv 4096))))], e_i64 (W ((W ((W (y0 + 4096)) - 1)).tdiv 4096))] h (fun _ h => hP ▸ w_slices_Repeat_sint_int h) (fun _ => rfl) (.cons _ _ _ _ (.sls (.cons _ _ _ _ (VEq.of_lepl (.cons _ _ _ _ (.int _ _ _ rfl) .nil) rfl) .nil)) (.cons _ _ _ _ (.int _ _ _ rfl) .nil)) rfl True.intro fun r1 _ h => ?_
    conv => cbv
    refine den_cut (r := r) (fun j2 : (List Int) => ⟨[(4, .osl 17)], [(17, .arr false 3 1 e_i64 j2)], []⟩) rebuild_Parts_K1 ?_ (fun j2 h => ?_)
    · conv => cbv
      refine den_chk h fun h => ?_
      conv => cbv
      refine den_loop (rebuild_Parts_L1 y0) h (fun a3 : Int × (List Int) => ⟨[(4, .osl 17), (20, .int .i64 (.ar .rem .i64 (.v y0) (.ar .quo .i64 (.ar .sub .i64 (.ar .add .i64 (.v y0) (.lit 4096)) (.lit 1)) (.lit 4096)))), (21, .int .i64 (.v a3.1))], [(17, .arr false 3 1 e_i64 a3.2)], []⟩) ?_ (fun _ _ a3 x1 h hb1 hx1 => ?_)
      · intro j0 hj
        conv => cbv
        subst hj
        exact ⟨⟨.arr _ _ _ _ _ _ rfl, trivial⟩, .same _, .same _, .int _ _ _ rfl, trivial⟩
      · unfold rebuild_Parts_L1 at h
        conv => cbv
        refine den_br h (fun _ h => ?_) (fun _ h => ?_)
        · conv => cbv
          refine den_chk h fun h => ?_
          conv => cbv
          refine den_chk h fun h => ?_
          conv => cbv
          refine den_eload h fun p4 _ h => ?_
          conv => cbv
          refine den_chk h fun h => ?_
          conv => cbv
          refine den_chk h fun h => ?_
          conv => cbv
          refine den_estore (f := e_i64) (W (p4 + 1)) h (fun _ => CEqL.of_lepl (.cons _ _ _ _ (.int _ _ _ rfl) .nil) rfl) fun l5 _ h => ?_
          conv => cbv
          refine den_back h hb1 fun j0 hj => ?_
          conv => cbv
          subst hj
          exact ⟨⟨.arr _ _ _ _ _ _ rfl, trivial⟩, .same _, .same _, .int _ _ _ rfl, trivial⟩
        · conv => cbv
          replace h := den_out h hx1
          refine den_join h fun j0 hj => ?_
          conv => cbv
          subst hj
          exact ⟨⟨.arr _ _ _ _ _ _ rfl, trivial⟩, .same _, trivial⟩
    · unfold rebuild_Parts_K1 at h
      conv => cbv
      cases h
      exact .same _
def T_jetsamlaw19_ints : Tab := [(3, ⟨.int .i64, 1, 8, [.int .i64 (.lit 0)]⟩), (24, ⟨.slice 3, 1, 24, [.nilsl]⟩)]
theorem T_jetsamlaw19_ints_ok : TabOk Try.prog T_jetsamlaw19_ints := by
  have h : T_jetsamlaw19_ints = tabOf Try.prog [3, 24] := by kernel_rfl
  rw [h]; exact tabOk_of (by kernel_rfl)
theorem v_jetsamlaw19_ints {y0 : List Int} {y1 : List Int} {r : Bool} (h : jetsamlaw19_ints y0 y1 = some r) : AVal Try.prog [] 11 [(e_sl 1 e_i64) y0, (e_sl 1 e_i64) y1] (e_bool r) := by
  refine aval_of (c := ⟨T_jetsamlaw19_ints, [], 26, [], []⟩) Try.func11 (by kernel_rfl) rfl rfl rfl T_jetsamlaw19_ints_ok (eqsOk_of (by kernel_rfl)) Try_mixed rfl fun P hP _ => ?_
  unfold jetsamlaw19_ints at h
  conv => cbv
  refine den_br h (fun _ h => ?_) (fun _ h => ?_)
  · conv => cbv
    cases h
    exact .bool _ _ rfl
  · conv => cbv
    refine den_cut (r := r) (fun j1 : Unit => ⟨[], [], []⟩) jetsamlaw19_ints_K1 ?_ (fun j1 h => ?_)
    · conv => cbv
      refine den_loop (jetsamlaw19_ints_L1 y0 y1) h (fun a2 : Int => ⟨[(0, .sl 1 e_i64 y0), (1, .sl 1 e_i64 y1), (5, .int .i64 (.v a2))], [], []⟩) ?_ (fun _ _ a2 x1 h hb1 hx1 => ?_)
      · intro j0 hj
        conv => cbv
        subst hj
        exact ⟨.same _, .same _, .int _ _ _ rfl, trivial⟩
      · unfold jetsamlaw19_ints_L1 at h
        conv => cbv
        refine den_br h (fun _ h => ?_) (fun _ h => ?_)
        · conv => cbv
          refine den_elem h fun p3 _ h => ?_
          conv => cbv
          refine den_elem h fun p4 _ h => ?_
          conv => cbv
          refine den_br h (fun _ h => ?_) (fun _ h => ?_)
          · conv => cbv
            replace h := den_out h hx1
            cases h
            exact .bool _ _ rfl
          · conv => cbv
            refine den_back h hb1 fun j0 hj => ?_
            conv => cbv
            subst hj
            exact ⟨.same _, .same _, .int _ _ _ rfl, trivial⟩
        · conv => cbv
          replace h := den_out h hx1
          refine den_join h fun j0 hj => ?_
          conv => cbv
          subst hj
          exact trivial
    · unfold jetsamlaw19_ints_K1 at h
      conv => cbv
      cases h
      exact .bool _ _ rfl
def T_jetsamlaw19_awake : Tab := [(3, ⟨.int .i64, 1, 8, [.int .i64 (.lit 0)]⟩), (24, ⟨.slice 3, 1, 24, [.nilsl]⟩)]
theorem T_jetsamlaw19_awake_ok : TabOk Try.prog T_jetsamlaw19_awake := by
  have h : T_jetsamlaw19_awake = tabOf Try.prog [3, 24] := by kernel_rfl
  rw [h]; exact tabOk_of (by kernel_rfl)
theorem v_jetsamlaw19_awake {r : Bool} (h : jetsamlaw19_awake = some r) : AVal Try.prog [] 10 [] (e_bool r) := by
  refine aval_of (c := ⟨T_jetsamlaw19_awake, [], 14, [], []⟩) Try.func10 (by kernel_rfl) rfl rfl rfl T_jetsamlaw19_awake_ok (eqsOk_of (by kernel_rfl)) Try_mixed rfl fun P hP _ => ?_
  unfold jetsamlaw19_awake at h
  conv => cbv
  refine den_call (e_sl 1 e_i64) [e_i64 (5000 : Int)] h (fun _ h => hP ▸ v_rebuild_Parts h) (.cons _ _ _ _ (.int _ _ _ rfl) .nil) rfl rfl (fun _ => rfl) fun r1 _ h => ?_
  conv => cbv
  refine den_call e_bool [(e_sl 1 e_i64) r1, (e_sl 1 e_i64) [(2500 : Int), (2500 : Int)]] h (fun _ h => hP ▸ v_jetsamlaw19_ints h) (.cons _ _ _ _ (.same _) (.cons _ _ _ _ (.sls (.cons _ _ _ _ (VEq.of_lepl (.cons _ _ _ _ (.int _ _ _ rfl) .nil) rfl) (.cons _ _ _ _ (VEq.of_lepl (.cons _ _ _ _ (.int _ _ _ rfl) .nil) rfl) .nil))) .nil)) rfl rfl (fun _ => rfl) fun r2 _ h => ?_
  conv => cbv
  refine den_br h (fun _ h => ?_) (fun _ h => ?_)
  · conv => cbv
    refine den_call (e_sl 1 e_i64) [e_i64 (4097 : Int)] h (fun _ h => hP ▸ v_rebuild_Parts h) (.cons _ _ _ _ (.int _ _ _ rfl) .nil) rfl rfl (fun _ => rfl) fun r3 _ h => ?_
    conv => cbv
    refine den_call e_bool [(e_sl 1 e_i64) r3, (e_sl 1 e_i64) [(2049 : Int), (2048 : Int)]] h (fun _ h => hP ▸ v_jetsamlaw19_ints h) (.cons _ _ _ _ (.same _) (.cons _ _ _ _ (.sls (.cons _ _ _ _ (VEq.of_lepl (.cons _ _ _ _ (.int _ _ _ rfl) .nil) rfl) (.cons _ _ _ _ (VEq.of_lepl (.cons _ _ _ _ (.int _ _ _ rfl) .nil) rfl) .nil))) .nil)) rfl rfl (fun _ => rfl) fun r4 _ h => ?_
    conv => cbv
    refine den_br h (fun _ h => ?_) (fun _ h => ?_)
    · conv => cbv
      refine den_call (e_sl 1 e_i64) [e_i64 (7 : Int)] h (fun _ h => hP ▸ v_rebuild_Parts h) (.cons _ _ _ _ (.int _ _ _ rfl) .nil) rfl rfl (fun _ => rfl) fun r5 _ h => ?_
      conv => cbv
      refine den_call e_bool [(e_sl 1 e_i64) r5, (e_sl 1 e_i64) [(7 : Int)]] h (fun _ h => hP ▸ v_jetsamlaw19_ints h) (.cons _ _ _ _ (.same _) (.cons _ _ _ _ (.sls (.cons _ _ _ _ (VEq.of_lepl (.cons _ _ _ _ (.int _ _ _ rfl) .nil) rfl) .nil)) .nil)) rfl rfl (fun _ => rfl) fun r6 _ h => ?_
      conv => cbv
      cases h
      exact .same _
    · conv => cbv
      cases h
      exact .bool _ _ rfl
  · conv => cbv
    cases h
    exact .bool _ _ rfl
def T_jetsamref19_Parts : Tab := [(3, ⟨.int .i64, 1, 8, [.int .i64 (.lit 0)]⟩), (24, ⟨.slice 3, 1, 24, [.nilsl]⟩)]
theorem T_jetsamref19_Parts_ok : TabOk Try.prog T_jetsamref19_Parts := by
  have h : T_jetsamref19_Parts = tabOf Try.prog [3, 24] := by kernel_rfl
  rw [h]; exact tabOk_of (by kernel_rfl)
theorem v_jetsamref19_Parts {y0 : Int} {r : List Int} (h : jetsamref19_Parts y0 = some r) : AVal Try.prog [] 13 [e_i64 y0] ((e_sl 1 e_i64) r) := by
  refine aval_of (c := ⟨T_jetsamref19_Parts, [], 35, [], []⟩) Try.func13 (by kernel_rfl) rfl rfl rfl T_jetsamref19_Parts_ok (eqsOk_of (by kernel_rfl)) Try_mixed rfl fun P hP _ => ?_
  unfold jetsamref19_Parts at h
  conv => cbv
  refine den_cut (r := r) (fun j1 : Int => ⟨[(0, .int .i64 (.v y0)), (3, .nilsl), (4, .int .i64 (.v j1))], [], []⟩) (jetsamref19_Parts_K1 y0) ?_ (fun j1 h => ?_)
  · conv => cbv
    refine den_loop (jetsamref19_Parts_L3 y0) h (fun a8 : Int => ⟨[(0, .int .i64 (.v y0)), (3, .nilsl), (4, .int .i64 (.v a8))], [], []⟩) ?_ (fun _ _ a8 x1 h hb1 hx1 => ?_)
    · intro j0 hj
      conv => cbv
      subst hj
      exact ⟨.same _, .same _, .int _ _ _ rfl, trivial⟩
    · unfold jetsamref19_Parts_L3 at h
      conv => cbv
      refine den_br h (fun _ h => ?_) (fun _ h => ?_)
      · conv => cbv
        refine den_back h hb1 fun j0 hj => ?_
        conv => cbv
        subst hj
        exact ⟨.same _, .same _, .int _ _ _ rfl, trivial⟩
      · conv => cbv
        replace h := den_out h hx1
        refine den_join h fun j0 hj => ?_
        conv => cbv
        subst hj
        exact ⟨.same _, .same _, .int _ _ _ rfl, trivial⟩
  · unfold jetsamref19_Parts_K1 at h
    conv => cbv
    refine den_cut (r := r) (fun j2 : (List Int) => ⟨[(3, .osl 30)], [(30, .arr false 3 1 e_i64 j2)], []⟩) jetsamref19_Parts_K2 ?_ (fun j2 h => ?_)
    · conv => cbv
      refine den_loop jetsamref19_Parts_L1 h (fun a3 : Int × Int × (List Int) => ⟨[(3, .osl 30), (5, .int .i64 (.v a3.1)), (6, .int .i64 (.v a3.2.1))], [(30, .arr false 3 1 e_i64 a3.2.2)], []⟩) ?_ (fun _ _ a3 x1 h hb1 hx1 => ?_)
      · intro j0 hj
        conv => cbv
        subst hj
        exact ⟨⟨.arr _ _ _ _ _ _ rfl, trivial⟩, .own _ _ _ _ _ _ rfl rfl, .int _ _ _ rfl, .int _ _ _ rfl, trivial⟩
      · unfold jetsamref19_Parts_L1 at h
        conv => cbv
        refine den_br h (fun _ h => ?_) (fun _ h => ?_)
        · conv => cbv
          refine den_cut (r := x1) (fun j4 : Int × (List Int) => ⟨[(3, .osl 30), (5, .int .i64 (.v j4.1)), (6, .int .i64 (.v a3.2.1))], [(30, .arr false 3 1 e_i64 j4.2)], []⟩) (jetsamref19_Parts_K3 a3) ?_ (fun j4 h => ?_)
          · conv => cbv
            refine den_cut (r := x1) (fun j5 : Int => ⟨[(3, .osl 30), (5, .int .i64 (.v a3.1)), (6, .int .i64 (.v a3.2.1)), (7, .int .i64 (.v j5))], [(30, .arr false 3 1 e_i64 a3.2.2)], []⟩) (jetsamref19_Parts_K4 a3) ?_ (fun j5 h => ?_)
            · conv => cbv
              refine den_loop (jetsamref19_Parts_L2 a3) h (fun a7 : Int => ⟨[(3, .osl 30), (5, .int .i64 (.v a3.1)), (6, .int .i64 (.v a3.2.1)), (7, .int .i64 (.v a7))], [(30, .arr false 3 1 e_i64 a3.2.2)], []⟩) ?_ (fun _ _ a7 x2 h hb2 hx2 => ?_)
              · intro j0 hj
                conv => cbv
                subst hj
                exact ⟨⟨.same _, trivial⟩, .same _, .same _, .same _, .int _ _ _ rfl, trivial⟩
              · unfold jetsamref19_Parts_L2 at h
                conv => cbv
                refine den_br h (fun _ h => ?_) (fun _ h => ?_)
                · conv => cbv
                  refine den_back h hb2 fun j0 hj => ?_
                  conv => cbv
                  subst hj
                  exact ⟨⟨.same _, trivial⟩, .same _, .same _, .same _, .int _ _ _ rfl, trivial⟩
                · conv => cbv
                  replace h := den_out h hx2
                  refine den_join h fun j0 hj => ?_
                  conv => cbv
                  subst hj
                  exact ⟨⟨.same _, trivial⟩, .same _, .same _, .same _, .int _ _ _ rfl, trivial⟩
            · unfold jetsamref19_Parts_K4 at h
              conv => cbv
              refine den_app_own e_i64 (xs := [j5]) h rfl (News.sls (.cons _ _ _ _ (VEq.of_lepl (.cons _ _ _ _ (.same _) .nil) rfl) .nil)) fun l6 _ h => ?_
              conv => cbv
              refine den_join h fun j0 hj => ?_
              conv => cbv
              subst hj
              exact ⟨⟨.arr _ _ _ _ _ _ rfl, trivial⟩, .same _, .int _ _ _ rfl, .same _, trivial⟩
          · unfold jetsamref19_Parts_K3 at h
            conv => cbv
            refine den_back h hb1 fun j0 hj => ?_
            conv => cbv
            subst hj
            exact ⟨⟨.arr _ _ _ _ _ _ rfl, trivial⟩, .same _, .int _ _ _ rfl, .int _ _ _ rfl, trivial⟩
        · conv => cbv
          replace h := den_out h hx1
          refine den_join h fun j0 hj => ?_
          conv => cbv
          subst hj
          exact ⟨⟨.arr _ _ _ _ _ _ rfl, trivial⟩, .same _, trivial⟩
    · unfold jetsamref19_Parts_K2 at h
      conv => cbv
      cases h
      exact .same _
def T_jetsamlaw19_RebuildParts : Tab := []
theorem T_jetsamlaw19_RebuildParts_ok : TabOk Try.prog T_jetsamlaw19_RebuildParts := by
  have h : T_jetsamlaw19_RebuildParts = tabOf Try.prog [] := by kernel_rfl
  rw [h]; exact tabOk_of (by kernel_rfl)
theorem v_jetsamlaw19_RebuildParts {y0 : Int} {r : Bool} (h : jetsamlaw19_RebuildParts y0 = some r) : AVal Try.prog [] 3 [e_i64 y0] (e_bool r) := by
  refine aval_of (c := ⟨T_jetsamlaw19_RebuildParts, [], 14, [], []⟩) Try.func3 (by kernel_rfl) rfl rfl rfl T_jetsamlaw19_RebuildParts_ok (eqsOk_of (by kernel_rfl)) Try_mixed rfl fun P hP _ => ?_
  unfold jetsamlaw19_RebuildParts at h
  conv => cbv
  refine den_br h (fun _ h => ?_) (fun _ h => ?_)
  · conv => cbv
    refine den_call e_bool [] h (fun _ h => hP ▸ v_jetsamlaw19_awake h) .nil rfl rfl (fun _ => rfl) fun r1 _ h => ?_
    conv => cbv
    cases h
    exact .same _
  · conv => cbv
    refine den_call (e_sl 1 e_i64) [e_i64 y0] h (fun _ h => hP ▸ v_rebuild_Parts h) (.cons _ _ _ _ (.same _) .nil) rfl rfl (fun _ => rfl) fun r2 _ h => ?_
    conv => cbv
    refine den_call (e_sl 1 e_i64) [e_i64 y0] h (fun _ h => hP ▸ v_jetsamref19_Parts h) (.cons _ _ _ _ (.same _) .nil) rfl rfl (fun _ => rfl) fun r3 _ h => ?_
    conv => cbv
    refine den_call e_bool [(e_sl 1 e_i64) r2, (e_sl 1 e_i64) r3] h (fun _ h => hP ▸ v_jetsamlaw19_ints h) (.cons _ _ _ _ (.same _) (.cons _ _ _ _ (.same _) .nil)) rfl rfl (fun _ => rfl) fun r4 _ h => ?_
    conv => cbv
    refine den_br h (fun _ h => ?_) (fun _ h => ?_)
    · conv => cbv
      refine den_call e_bool [] h (fun _ h => hP ▸ v_jetsamlaw19_awake h) .nil rfl rfl (fun _ => rfl) fun r5 _ h => ?_
      conv => cbv
      cases h
      exact .same _
    · conv => cbv
      cases h
      exact .bool _ _ rfl
end Go.Proofs.Ytnapnedfhimikaa
