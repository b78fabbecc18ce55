/- That the code answers so, printed by a program. -/
import Derived.Test.YtpdklmagncfhaaaDoorF1
import Derived.Test.YtpdklmagncfhaaaDoorSl
import Derived.Test.YtpdklmagncfhaaaDoorK4
import Derived.Test.YtpdklmagncfhaaaDoorK5
import Derived.Test.YtpdklmagncfhaaaDoorProg
set_option maxRecDepth 4000
set_option linter.all false
set_option linter.unusedVariables false
set_option linter.unusedSimpArgs false
namespace Go.Proofs.YtpdklmagncfhaaaDoor
open Go Go.Vg
theorem Tryd_mixed : Tryd.prog.follows .mixedOrders = true := by kernel_rfl
def T_jetsamlaw13_few : Tab := [(9, ⟨.str, 1, 16, [.str (.lit [])]⟩), (22, ⟨.slice 9, 1, 24, [.nilsl]⟩), (24, ⟨.struct [(0, 9), (1, 22)], 2, 40, [.str (.lit []), .nilsl]⟩)]
theorem T_jetsamlaw13_few_ok : TabOk Tryd.prog T_jetsamlaw13_few := tab_ok [9, 22, 24]
theorem v_jetsamlaw13_few {y0 : tags_Comments} {r : Bool} (h : jetsamlaw13_few y0 = some r) : AVal Tryd.prog Gl 9 [e_tags_Comments y0] (e_bool r) := by
  refine aval_of' T_jetsamlaw13_few Gl 28 Tryd.func9 T_jetsamlaw13_few_ok Tryd_mixed fun P hP _ => ?_
  unfold jetsamlaw13_few at h
  conv => cbv
  refine .own ?_
  conv => cbv
  refine den_cut' (r := r) (jetsamlaw13_few_K1 y0) (fun j1 => ⟨[(1, .ptr 1 0)], [(1, .var [.str (.v y0.Vendor), .sl 1 e_str y0.L])], []⟩) ?_ (fun j1 h => ?_)
  · conv => cbv
    refine den_loop' (jetsamlaw13_few_L1 y0) h (fun a2 => ⟨[(1, .ptr 1 0), (3, .int .i64 (.v a2))], [(1, .var [.str (.v y0.Vendor), .sl 1 e_str y0.L])], []⟩) (fun _ _ a2 x1 h hb1 hx1 => ?_)
    unfold jetsamlaw13_few_L1 at h
    conv => cbv
    refine den_br h (fun _ h => ?_) (fun _ h => ?_)
    · conv => cbv
      refine .mk ?_
      conv => cbv
      refine den_elem h fun p3 _ h => ?_
      conv => cbv
      refine den_br h (fun _ h => ?_) (fun _ h => ?_)
      · conv => cbv
        replace h := den_out h hx1
        cases h
        exact lp
      conv => cbv
      exact den_back' h hb1
    conv => cbv
    replace h := den_out h hx1
    exact den_join' h
  unfold jetsamlaw13_few_K1 at h
  conv => cbv
  refine .mk ?_
  conv => cbv
  cases h
  exact lp
def T_unicode_utf8_word_string : Tab := [(5, ⟨.int .u8, 1, 1, [.int .u8 (.lit 0)]⟩), (9, ⟨.str, 1, 16, [.str (.lit [])]⟩), (125, ⟨.int .u64, 1, 8, [.int .u64 (.lit 0)]⟩)]
theorem T_unicode_utf8_word_string_ok : TabOk Tryd.prog T_unicode_utf8_word_string := tab_ok [5, 9, 125]
theorem v_unicode_utf8_word_string {y0 : List UInt8} {r : Int} (h : unicode_utf8_word_string y0 = some r) : AVal Tryd.prog Gl 67 [e_str y0] (e_u64 r) := by
  refine aval_of' T_unicode_utf8_word_string Gl 59 Tryd.func67 T_unicode_utf8_word_string_ok Tryd_mixed fun P hP _ => ?_
  unfold unicode_utf8_word_string at h
  conv => cbv
  refine .dup ?_
  conv => cbv
  refine .mk (some []) (by kernel_rfl) ?_
  conv => cbv
  refine den_elemS h fun b1 _ h => ?_
  conv => cbv
  refine den_elemS h fun b2 _ h => ?_
  conv => cbv
  refine .mk ?_
  conv => cbv
  refine den_elemS h fun b3 _ h => ?_
  conv => cbv
  refine .mk ?_
  conv => cbv
  refine den_elemS h fun b4 _ h => ?_
  conv => cbv
  refine .mk ?_
  conv => cbv
  refine den_elemS h fun b5 _ h => ?_
  conv => cbv
  refine .mk ?_
  conv => cbv
  refine den_elemS h fun b6 _ h => ?_
  conv => cbv
  refine .mk ?_
  conv => cbv
  refine den_elemS h fun b7 _ h => ?_
  conv => cbv
  refine den_elemS h fun b8 _ h => ?_
  conv => cbv
  refine .mk ?_
  conv => cbv
  cases h
  exact lp
def T_unicode_utf8_ValidString : Tab := [(3, ⟨.int .i64, 1, 8, [.int .i64 (.lit 0)]⟩), (5, ⟨.int .u8, 1, 1, [.int .u8 (.lit 0)]⟩), (9, ⟨.str, 1, 16, [.str (.lit [])]⟩), (106, ⟨.arr 256 5, 256, 256, [.int .u8 (.lit 0), .int .u8 (.lit 0), .int .u8 (.lit 0), .int .u8 (.lit 0), .int .u8 (.lit 0), .int .u8 (.lit 0), .int .u8 (.lit 0), .int .u8 (.lit 0), .int .u8 (.lit 0), .int .u8 (.lit 0), .int .u8 (.lit 0), .int .u8 (.lit 0), .int .u8 (.lit 0), .int .u8 (.lit 0), .int .u8 (.lit 0), .int .u8 (.lit 0), .int .u8 (.lit 0), .int .u8 (.lit 0), .int .u8 (.lit 0), .int .u8 (.lit 0), .int .u8 (.lit 0), .int .u8 (.lit 0), .int .u8 (.lit 0), .int .u8 (.lit 0), .int .u8 (.lit 0), .int .u8 (.lit 0), .int .u8 (.lit 0), .int .u8 (.lit 0), .int .u8 (.lit 0), .int .u8 (.lit 0), .int .u8 (.lit 0), .int .u8 (.lit 0), .int .u8 (.lit 0), .int .u8 (.lit 0), .int .u8 (.lit 0), .int .u8 (.lit 0), .int .u8 (.lit 0), .int .u8 (.lit 0), .int .u8 (.lit 0), .int .u8 (.lit 0), .int .u8 (.lit 0), .int .u8 (.lit 0), .int .u8 (.lit 0), .int .u8 (.lit 0), .int .u8 (.lit 0), .int .u8 (.lit 0), .int .u8 (.lit 0), .int .u8 (.lit 0), .int .u8 (.lit 0), .int .u8 (.lit 0), .int .u8 (.lit 0), .int .u8 (.lit 0), .int .u8 (.lit 0), .int .u8 (.lit 0), .int .u8 (.lit 0), .int .u8 (.lit 0), .int .u8 (.lit 0), .int .u8 (.lit 0), .int .u8 (.lit 0), .int .u8 (.lit 0), .int .u8 (.lit 0), .int .u8 (.lit 0), .int .u8 (.lit 0), .int .u8 (.lit 0), .int .u8 (.lit 0), .int .u8 (.lit 0), .int .u8 (.lit 0), .int .u8 (.lit 0), .int .u8 (.lit 0), .int .u8 (.lit 0), .int .u8 (.lit 0), .int .u8 (.lit 0), .int .u8 (.lit 0), .int .u8 (.lit 0), .int .u8 (.lit 0), .int .u8 (.lit 0), .int .u8 (.lit 0), .int .u8 (.lit 0), .int .u8 (.lit 0), .int .u8 (.lit 0), .int .u8 (.lit 0), .int .u8 (.lit 0), .int .u8 (.lit 0), .int .u8 (.lit 0), .int .u8 (.lit 0), .int .u8 (.lit 0), .int .u8 (.lit 0), .int .u8 (.lit 0), .int .u8 (.lit 0), .int .u8 (.lit 0), .int .u8 (.lit 0), .int .u8 (.lit 0), .int .u8 (.lit 0), .int .u8 (.lit 0), .int .u8 (.lit 0), .int .u8 (.lit 0), .int .u8 (.lit 0), .int .u8 (.lit 0), .int .u8 (.lit 0), .int .u8 (.lit 0), .int .u8 (.lit 0), .int .u8 (.lit 0), .int .u8 (.lit 0), .int .u8 (.lit 0), .int .u8 (.lit 0), .int .u8 (.lit 0), .int .u8 (.lit 0), .int .u8 (.lit 0), .int .u8 (.lit 0), .int .u8 (.lit 0), .int .u8 (.lit 0), .int .u8 (.lit 0), .int .u8 (.lit 0), .int .u8 (.lit 0), .int .u8 (.lit 0), .int .u8 (.lit 0), .int .u8 (.lit 0), .int .u8 (.lit 0), .int .u8 (.lit 0), .int .u8 (.lit 0), .int .u8 (.lit 0), .int .u8 (.lit 0), .int .u8 (.lit 0), .int .u8 (.lit 0), .int .u8 (.lit 0), .int .u8 (.lit 0), .int .u8 (.lit 0), .int .u8 (.lit 0), .int .u8 (.lit 0), .int .u8 (.lit 0), .int .u8 (.lit 0), .int .u8 (.lit 0), .int .u8 (.lit 0), .int .u8 (.lit 0), .int .u8 (.lit 0), .int .u8 (.lit 0), .int .u8 (.lit 0), .int .u8 (.lit 0), .int .u8 (.lit 0), .int .u8 (.lit 0), .int .u8 (.lit 0), .int .u8 (.lit 0), .int .u8 (.lit 0), .int .u8 (.lit 0), .int .u8 (.lit 0), .int .u8 (.lit 0), .int .u8 (.lit 0), .int .u8 (.lit 0), .int .u8 (.lit 0), .int .u8 (.lit 0), .int .u8 (.lit 0), .int .u8 (.lit 0), .int .u8 (.lit 0), .int .u8 (.lit 0), .int .u8 (.lit 0), .int .u8 (.lit 0), .int .u8 (.lit 0), .int .u8 (.lit 0), .int .u8 (.lit 0), .int .u8 (.lit 0), .int .u8 (.lit 0), .int .u8 (.lit 0), .int .u8 (.lit 0), .int .u8 (.lit 0), .int .u8 (.lit 0), .int .u8 (.lit 0), .int .u8 (.lit 0), .int .u8 (.lit 0), .int .u8 (.lit 0), .int .u8 (.lit 0), .int .u8 (.lit 0), .int .u8 (.lit 0), .int .u8 (.lit 0), .int .u8 (.lit 0), .int .u8 (.lit 0), .int .u8 (.lit 0), .int .u8 (.lit 0), .int .u8 (.lit 0), .int .u8 (.lit 0), .int .u8 (.lit 0), .int .u8 (.lit 0), .int .u8 (.lit 0), .int .u8 (.lit 0), .int .u8 (.lit 0), .int .u8 (.lit 0), .int .u8 (.lit 0), .int .u8 (.lit 0), .int .u8 (.lit 0), .int .u8 (.lit 0), .int .u8 (.lit 0), .int .u8 (.lit 0), .int .u8 (.lit 0), .int .u8 (.lit 0), .int .u8 (.lit 0), .int .u8 (.lit 0), .int .u8 (.lit 0), .int .u8 (.lit 0), .int .u8 (.lit 0), .int .u8 (.lit 0), .int .u8 (.lit 0), .int .u8 (.lit 0), .int .u8 (.lit 0), .int .u8 (.lit 0), .int .u8 (.lit 0), .int .u8 (.lit 0), .int .u8 (.lit 0), .int .u8 (.lit 0), .int .u8 (.lit 0), .int .u8 (.lit 0), .int .u8 (.lit 0), .int .u8 (.lit 0), .int .u8 (.lit 0), .int .u8 (.lit 0), .int .u8 (.lit 0), .int .u8 (.lit 0), .int .u8 (.lit 0), .int .u8 (.lit 0), .int .u8 (.lit 0), .int .u8 (.lit 0), .int .u8 (.lit 0), .int .u8 (.lit 0), .int .u8 (.lit 0), .int .u8 (.lit 0), .int .u8 (.lit 0), .int .u8 (.lit 0), .int .u8 (.lit 0), .int .u8 (.lit 0), .int .u8 (.lit 0), .int .u8 (.lit 0), .int .u8 (.lit 0), .int .u8 (.lit 0), .int .u8 (.lit 0), .int .u8 (.lit 0), .int .u8 (.lit 0), .int .u8 (.lit 0), .int .u8 (.lit 0), .int .u8 (.lit 0), .int .u8 (.lit 0), .int .u8 (.lit 0), .int .u8 (.lit 0), .int .u8 (.lit 0), .int .u8 (.lit 0), .int .u8 (.lit 0), .int .u8 (.lit 0), .int .u8 (.lit 0), .int .u8 (.lit 0), .int .u8 (.lit 0), .int .u8 (.lit 0), .int .u8 (.lit 0), .int .u8 (.lit 0), .int .u8 (.lit 0), .int .u8 (.lit 0), .int .u8 (.lit 0), .int .u8 (.lit 0), .int .u8 (.lit 0), .int .u8 (.lit 0)]⟩), (108, ⟨.struct [(0, 5), (1, 5)], 2, 2, [.int .u8 (.lit 0), .int .u8 (.lit 0)]⟩), (109, ⟨.arr 16 108, 32, 32, [.int .u8 (.lit 0), .int .u8 (.lit 0), .int .u8 (.lit 0), .int .u8 (.lit 0), .int .u8 (.lit 0), .int .u8 (.lit 0), .int .u8 (.lit 0), .int .u8 (.lit 0), .int .u8 (.lit 0), .int .u8 (.lit 0), .int .u8 (.lit 0), .int .u8 (.lit 0), .int .u8 (.lit 0), .int .u8 (.lit 0), .int .u8 (.lit 0), .int .u8 (.lit 0), .int .u8 (.lit 0), .int .u8 (.lit 0), .int .u8 (.lit 0), .int .u8 (.lit 0), .int .u8 (.lit 0), .int .u8 (.lit 0), .int .u8 (.lit 0), .int .u8 (.lit 0), .int .u8 (.lit 0), .int .u8 (.lit 0), .int .u8 (.lit 0), .int .u8 (.lit 0), .int .u8 (.lit 0), .int .u8 (.lit 0), .int .u8 (.lit 0), .int .u8 (.lit 0)]⟩)]
theorem T_unicode_utf8_ValidString_ok : TabOk Tryd.prog T_unicode_utf8_ValidString := tab_ok [3, 5, 9, 106, 108, 109]
set_option maxHeartbeats 2000000 in
theorem v_unicode_utf8_ValidString {y0 : List UInt8} {r : Bool} (h : unicode_utf8_ValidString y0 = some r) : AVal Tryd.prog Gl 34 [e_str y0] (e_bool r) := by
  refine aval_of' T_unicode_utf8_ValidString Gl 169 Tryd.func34 T_unicode_utf8_ValidString_ok Tryd_mixed fun P hP _ => ?_
  unfold unicode_utf8_ValidString at h
  conv => cbv
  refine den_cut' (r := r) unicode_utf8_ValidString_K1 (fun j1 => ⟨[], [], []⟩) ?_ (fun j1 h => ?_)
  · conv => cbv
    refine den_loop' unicode_utf8_ValidString_L1 h (fun a2 => ⟨[(0, .str (.v a2))], [], []⟩) (fun _ _ a2 x1 h hb1 hx1 => ?_)
    unfold unicode_utf8_ValidString_L1 at h
    conv => cbv
    refine den_br h (fun _ h => ?_) (fun _ h => ?_)
    · conv => cbv
      refine den_elemS h fun b3 _ h => ?_
      conv => cbv
      refine den_br h (fun _ h => ?_) (fun _ h => ?_)
      · conv => cbv
        refine den_subs h fun t4 _ h => ?_
        conv => cbv
        refine den_cut' (r := x1) unicode_utf8_ValidString_K2 (fun j5 => ⟨[(0, .str (.v j5))], [], []⟩) ?_ (fun j5 h => ?_)
        · conv => cbv
          refine .mk ?_
          conv => cbv
          refine den_br h (fun _ h => ?_) (fun _ h => ?_)
          · conv => cbv
            refine den_call' hP h (fun _ h => v_unicode_utf8_word_string h) fun r6 _ h => ?_
            conv => cbv
            refine den_br h (fun _ h => ?_) (fun _ h => ?_)
            · conv => cbv
              refine den_subs h fun t7 _ h => ?_
              conv => cbv
              refine den_cut' (r := x1) (unicode_utf8_ValidString_K3 t7) (fun j8 => ⟨[(0, .str (.v t7)), (21, .int .u64 (.v r6)), (22, .int .u64 (.ar .and .u64 (.v r6) (.lit 9259542123273814144))), (23, .bool (.cmp .eql (.ar .and .u64 (.v r6) (.lit 9259542123273814144)) (.lit 0))), (39, .bool (.v j8))], [], []⟩) ?_ (fun j8 h => ?_)
              · conv => cbv
                refine .mk (some []) (by kernel_rfl) ?_
                conv => cbv
                refine .mk ?_
                conv => cbv
                refine den_br h (fun _ h => ?_) (fun _ h => ?_)
                · conv => cbv
                  refine den_subs h fun t20 _ h => ?_
                  conv => cbv
                  refine den_call' hP h (fun _ h => v_unicode_utf8_word_string h) fun r21 _ h => ?_
                  conv => cbv
                  refine den_call' hP h (fun _ h => v_unicode_utf8_word_string h) fun r22 _ h => ?_
                  conv => cbv
                  refine .mk ?_
                  conv => cbv
                  exact den_join' h
                conv => cbv
                refine .mk ?_
                conv => cbv
                exact den_join' h
              unfold unicode_utf8_ValidString_K3 at h
              conv => cbv
              refine den_br h (fun _ h => ?_) (fun _ h => ?_)
              · conv => cbv
                refine den_subs h fun t9 _ h => ?_
                conv => cbv
                refine den_loop' unicode_utf8_ValidString_L2 h (fun a10 => ⟨[(0, .str (.v a10)), (21, .int .u64 (.v r6)), (22, .int .u64 (.ar .and .u64 (.v r6) (.lit 9259542123273814144))), (23, .bool (.cmp .eql (.ar .and .u64 (.v r6) (.lit 9259542123273814144)) (.lit 0)))], [], []⟩) (fun _ _ a10 x2 h hb2 hx2 => ?_)
                unfold unicode_utf8_ValidString_L2 at h
                conv => cbv
                refine den_cut' (r := x2) (unicode_utf8_ValidString_K4 a10) (fun j11 => ⟨[(0, .str (.v a10)), (21, .int .u64 (.v r6)), (22, .int .u64 (.ar .and .u64 (.v r6) (.lit 9259542123273814144))), (23, .bool (.cmp .eql (.ar .and .u64 (.v r6) (.lit 9259542123273814144)) (.lit 0))), (62, .bool (.v j11))], [], []⟩) ?_ (fun j11 h => ?_)
                · conv => cbv
                  refine .mk (some []) (by kernel_rfl) ?_
                  conv => cbv
                  refine .mk ?_
                  conv => cbv
                  refine den_br h (fun _ h => ?_) (fun _ h => ?_)
                  · conv => cbv
                    refine den_subs h fun t13 _ h => ?_
                    conv => cbv
                    refine den_subs h fun t14 _ h => ?_
                    conv => cbv
                    refine den_subs h fun t15 _ h => ?_
                    conv => cbv
                    refine .mk ?_
                    conv => cbv
                    refine den_call' hP h (fun _ h => v_unicode_utf8_word_string h) fun r16 _ h => ?_
                    conv => cbv
                    refine den_call' hP h (fun _ h => v_unicode_utf8_word_string h) fun r17 _ h => ?_
                    conv => cbv
                    refine den_call' hP h (fun _ h => v_unicode_utf8_word_string h) fun r18 _ h => ?_
                    conv => cbv
                    refine den_call' hP h (fun _ h => v_unicode_utf8_word_string h) fun r19 _ h => ?_
                    conv => cbv
                    refine .mk ?_
                    conv => cbv
                    exact den_join' h
                  conv => cbv
                  refine .mk ?_
                  conv => cbv
                  refine .mk ?_
                  conv => cbv
                  exact den_join' h
                unfold unicode_utf8_ValidString_K4 at h
                conv => cbv
                refine den_br h (fun _ h => ?_) (fun _ h => ?_)
                · conv => cbv
                  refine den_subs h fun t12 _ h => ?_
                  conv => cbv
                  exact den_back' h hb2
                conv => cbv
                replace h := den_out h hx2
                exact den_join' h
              conv => cbv
              exact den_join' h
            conv => cbv
            exact den_join' h
          conv => cbv
          exact den_join' h
        unfold unicode_utf8_ValidString_K2 at h
        conv => cbv
        exact den_back' h hb1
      conv => cbv
      refine den_elemV (f := e_u8) lp h fun p23 _ h => ?_
      conv => cbv
      refine .mk ?_
      conv => cbv
      refine den_elemV (f := e_unicode_utf8_acceptRange) lp h fun p24 _ h => ?_
      conv => cbv
      refine den_br h (fun _ h => ?_) (fun _ h => ?_)
      · conv => cbv
        refine den_cut' (r := x1) (unicode_utf8_ValidString_K5 a2) (fun j25 => ⟨[(0, .str (.v a2)), (94, .bool (.v j25))], [], []⟩) ?_ (fun j25 h => ?_)
        · conv => cbv
          refine .mk (some []) (by kernel_rfl) ?_
          conv => cbv
          refine .mk ?_
          conv => cbv
          refine den_br h (fun _ h => ?_) (fun _ h => ?_)
          · conv => cbv
            refine .mk ?_
            conv => cbv
            exact den_join' h
          conv => cbv
          refine den_elemS h fun b27 _ h => ?_
          conv => cbv
          refine .mk ?_
          conv => cbv
          refine den_br h (fun _ h => ?_) (fun _ h => ?_)
          · conv => cbv
            exact den_join' h
          conv => cbv
          refine den_elemS h fun b28 _ h => ?_
          conv => cbv
          exact den_join' h
        unfold unicode_utf8_ValidString_K5 at h
        conv => cbv
        refine den_br h (fun _ h => ?_) (fun _ h => ?_)
        · conv => cbv
          replace h := den_out h hx1
          cases h
          exact lp
        conv => cbv
        refine den_subs h fun t26 _ h => ?_
        conv => cbv
        exact den_back' h hb1
      conv => cbv
      refine den_br h (fun _ h => ?_) (fun _ h => ?_)
      · conv => cbv
        refine den_cut' (r := x1) (unicode_utf8_ValidString_K6 a2) (fun j29 => ⟨[(0, .str (.v a2)), (125, .bool (.v j29))], [], []⟩) ?_ (fun j29 h => ?_)
        · conv => cbv
          refine .mk (some []) (by kernel_rfl) ?_
          conv => cbv
          refine .mk ?_
          conv => cbv
          refine den_br h (fun _ h => ?_) (fun _ h => ?_)
          · conv => cbv
            refine .mk ?_
            conv => cbv
            refine .mk ?_
            conv => cbv
            refine .mk ?_
            conv => cbv
            exact den_join' h
          conv => cbv
          refine den_elemS h fun b31 _ h => ?_
          conv => cbv
          refine .mk ?_
          conv => cbv
          refine den_br h (fun _ h => ?_) (fun _ h => ?_)
          · conv => cbv
            refine .mk ?_
            conv => cbv
            refine .mk ?_
            conv => cbv
            exact den_join' h
          conv => cbv
          refine den_elemS h fun b32 _ h => ?_
          conv => cbv
          refine .mk ?_
          conv => cbv
          refine den_br h (fun _ h => ?_) (fun _ h => ?_)
          · conv => cbv
            refine .mk ?_
            conv => cbv
            exact den_join' h
          conv => cbv
          refine den_elemS h fun b33 _ h => ?_
          conv => cbv
          refine .mk ?_
          conv => cbv
          refine den_br h (fun _ h => ?_) (fun _ h => ?_)
          · conv => cbv
            exact den_join' h
          conv => cbv
          refine den_elemS h fun b34 _ h => ?_
          conv => cbv
          exact den_join' h
        unfold unicode_utf8_ValidString_K6 at h
        conv => cbv
        refine den_br h (fun _ h => ?_) (fun _ h => ?_)
        · conv => cbv
          replace h := den_out h hx1
          cases h
          exact lp
        conv => cbv
        refine den_subs h fun t30 _ h => ?_
        conv => cbv
        exact den_back' h hb1
      conv => cbv
      refine den_br h (fun _ h => ?_) (fun _ h => ?_)
      · conv => cbv
        refine den_cut' (r := x1) (unicode_utf8_ValidString_K7 a2) (fun j35 => ⟨[(0, .str (.v a2)), (166, .bool (.v j35))], [], []⟩) ?_ (fun j35 h => ?_)
        · conv => cbv
          refine .mk (some []) (by kernel_rfl) ?_
          conv => cbv
          refine .mk ?_
          conv => cbv
          refine den_br h (fun _ h => ?_) (fun _ h => ?_)
          · conv => cbv
            refine .mk ?_
            conv => cbv
            refine .mk ?_
            conv => cbv
            refine .mk ?_
            conv => cbv
            refine .mk ?_
            conv => cbv
            refine .mk ?_
            conv => cbv
            exact den_join' h
          conv => cbv
          refine den_elemS h fun b37 _ h => ?_
          conv => cbv
          refine .mk ?_
          conv => cbv
          refine den_br h (fun _ h => ?_) (fun _ h => ?_)
          · conv => cbv
            refine .mk ?_
            conv => cbv
            refine .mk ?_
            conv => cbv
            refine .mk ?_
            conv => cbv
            refine .mk ?_
            conv => cbv
            exact den_join' h
          conv => cbv
          refine den_elemS h fun b38 _ h => ?_
          conv => cbv
          refine .mk ?_
          conv => cbv
          refine den_br h (fun _ h => ?_) (fun _ h => ?_)
          · conv => cbv
            refine .mk ?_
            conv => cbv
            refine .mk ?_
            conv => cbv
            refine .mk ?_
            conv => cbv
            exact den_join' h
          conv => cbv
          refine den_elemS h fun b39 _ h => ?_
          conv => cbv
          refine .mk ?_
          conv => cbv
          refine den_br h (fun _ h => ?_) (fun _ h => ?_)
          · conv => cbv
            refine .mk ?_
            conv => cbv
            refine .mk ?_
            conv => cbv
            exact den_join' h
          conv => cbv
          refine den_elemS h fun b40 _ h => ?_
          conv => cbv
          refine .mk ?_
          conv => cbv
          refine den_br h (fun _ h => ?_) (fun _ h => ?_)
          · conv => cbv
            refine .mk ?_
            conv => cbv
            exact den_join' h
          conv => cbv
          refine den_elemS h fun b41 _ h => ?_
          conv => cbv
          refine den_br h (fun _ h => ?_) (fun _ h => ?_)
          · conv => cbv
            refine .mk ?_
            conv => cbv
            exact den_join' h
          conv => cbv
          refine den_elemS h fun b42 _ h => ?_
          conv => cbv
          refine .mk ?_
          conv => cbv
          exact den_join' h
        unfold unicode_utf8_ValidString_K7 at h
        conv => cbv
        refine den_br h (fun _ h => ?_) (fun _ h => ?_)
        · conv => cbv
          replace h := den_out h hx1
          cases h
          exact lp
        conv => cbv
        refine den_subs h fun t36 _ h => ?_
        conv => cbv
        exact den_back' h hb1
      conv => cbv
      replace h := den_out h hx1
      cases h
      exact lp
    conv => cbv
    replace h := den_out h hx1
    exact den_join' h
  unfold unicode_utf8_ValidString_K1 at h
  conv => cbv
  cases h
  exact lp
def T_slices_IndexFunc_sstring_string : Tab := [(9, ⟨.str, 1, 16, [.str (.lit [])]⟩), (22, ⟨.slice 9, 1, 24, [.nilsl]⟩)]
theorem T_slices_IndexFunc_sstring_string_ok : TabOk Tryd.prog T_slices_IndexFunc_sstring_string := tab_ok [9, 22]
theorem v_slices_IndexFunc_sstring_string {y0 : List (List UInt8)} {g1 : (List UInt8) → Option Bool} (fid1 : Nat) (hg1 : ∀ z0 r, g1 z0 = some r → AVal Tryd.prog Gl fid1 [e_str z0] (e_bool r)) {r : Int} (h : slices_IndexFunc_sstring_string y0 g1 = some r) : AVal Tryd.prog Gl 68 [(e_sl 1 e_str) y0, (.fn fid1 [] [])] (e_i64 r) := by
  refine aval_of' T_slices_IndexFunc_sstring_string Gl 19 Tryd.func68 T_slices_IndexFunc_sstring_string_ok Tryd_mixed fun P hP _ => ?_
  unfold slices_IndexFunc_sstring_string at h
  conv => cbv
  refine den_cut' (r := r) slices_IndexFunc_sstring_string_K1 (fun j1 => ⟨[], [], []⟩) ?_ (fun j1 h => ?_)
  · conv => cbv
    refine den_loop' (slices_IndexFunc_sstring_string_L1 y0 g1) h (fun a2 => ⟨[(0, .sl 1 e_str y0), (1, .fn fid1 [] []), (7, .int .i64 (.len y0)), (8, .int .i64 (.v a2))], [], []⟩) (fun _ _ a2 x1 h hb1 hx1 => ?_)
    unfold slices_IndexFunc_sstring_string_L1 at h
    conv => cbv
    refine den_br h (fun _ h => ?_) (fun _ h => ?_)
    · conv => cbv
      refine .mk ?_
      conv => cbv
      refine den_elem h fun p3 _ h => ?_
      conv => cbv
      refine den_call' hP h (fun _ h => hg1 _ _ h) fun r4 _ h => ?_
      conv => cbv
      refine den_br h (fun _ h => ?_) (fun _ h => ?_)
      · conv => cbv
        replace h := den_out h hx1
        cases h
        exact lp
      conv => cbv
      exact den_back' h hb1
    conv => cbv
    replace h := den_out h hx1
    exact den_join' h
  unfold slices_IndexFunc_sstring_string_K1 at h
  conv => cbv
  cases h
  exact lp
def T_slices_ContainsFunc_sstring_string : Tab := []
theorem T_slices_ContainsFunc_sstring_string_ok : TabOk Tryd.prog T_slices_ContainsFunc_sstring_string := tab_ok []
theorem v_slices_ContainsFunc_sstring_string {y0 : List (List UInt8)} {g1 : (List UInt8) → Option Bool} (fid1 : Nat) (hg1 : ∀ z0 r, g1 z0 = some r → AVal Tryd.prog Gl fid1 [e_str z0] (e_bool r)) {r : Bool} (h : slices_ContainsFunc_sstring_string y0 g1 = some r) : AVal Tryd.prog Gl 35 [(e_sl 1 e_str) y0, (.fn fid1 [] [])] (e_bool r) := by
  refine aval_of' T_slices_ContainsFunc_sstring_string Gl 9 Tryd.func35 T_slices_ContainsFunc_sstring_string_ok Tryd_mixed fun P hP _ => ?_
  unfold slices_ContainsFunc_sstring_string at h
  conv => cbv
  refine den_call' hP h (fun _ h => v_slices_IndexFunc_sstring_string _ hg1 h) fun r1 _ h => ?_
  conv => cbv
  cases h
  exact lp
theorem v_indexByte {s : List UInt8} {c r : Int} (h : indexByteF s c = some r) : AVal Tryd.prog Gl 103 [.str (.v s), e_u8 c] (e_i64 r) := by
  cases h
  have hargs : ∀ (w : World) (F : Nat → Prop) (β : Bt) (vs : Array Value), vs.size = [V.str (.v s), e_u8 c].length → (∀ (i : Nat) (v : Value) (x : V), vs[i]? = some v → [V.str (.v s), e_u8 c][i]? = some x → RA w F β [] v x) → vs = #[.string ⟨s.toArray⟩, .int .u8 c] ∧ s.length ≤ LIM := fun w F β vs h1 h2 => by
    have hl2 : vs.size = 2 := by simpa using h1
    have g0 : vs[0]? = some (vs[0]'(by omega)) := Array.getElem?_eq_getElem (by omega)
    have g1 : vs[1]? = some (vs[1]'(by omega)) := Array.getElem?_eq_getElem (by omega)
    have e0 := RA.of_str (h2 0 _ _ g0 rfl)
    have e1 := (RA.of_int (h2 1 _ _ g1 rfl)).1
    refine ⟨?_, e0.2⟩
    apply Array.ext
    · simpa using hl2
    · intro i h1' h2'
      simp at h2'
      match i, h2' with
      | 0, _ => exact e0.1
      | 1, _ => simpa [IE.den] using e1
  by_cases hs : s.length ≤ LIM
  · refine aval_of_calls (vs0 := #[.string ⟨s.toArray⟩, .int .u8 c]) (v := .int .i64 (Lib.indexByte s c.toNat.toUInt8)) Tryd.func103 rfl rfl (fun w F β vs h1 h2 => (hargs w F β vs h1 h2).1) (fun w => (Tryd.stringslite_IndexByte ⟨s.toArray⟩ c w).mono fun e w' ⟨he, hw⟩ => ⟨he, hw ▸ Keep.refl _ _⟩) (fun w F => .int _ _ _ rfl ((has_iff _ _).2 ?_))
    have h0 := Lib.indexByte_ge s c.toNat.toUInt8
    have h1 := indexByte_lt s c.toNat.toUInt8
    have h2 : LIM = 9223372036854775807 := rfl
    simp only [lo, hi]
    rcases h1 with h1 | rfl
    · exact ⟨by omega, by omega⟩
    · simp [Lib.indexByte]
  · exact ⟨⟨_, Tryd.func103, rfl, rfl⟩, fun w F β vs h1 h2 _ _ _ _ => absurd (hargs w F β vs h1 h2).2 hs⟩
def T_internal_stringslite_Index : Tab := [(3, ⟨.int .i64, 1, 8, [.int .i64 (.lit 0)]⟩), (9, ⟨.str, 1, 16, [.str (.lit [])]⟩)]
theorem T_internal_stringslite_Index_ok : TabOk Tryd.prog T_internal_stringslite_Index := tab_ok [3, 9]
theorem v_internal_stringslite_Index {y0 : List UInt8} {y1 : List UInt8} {r : Int} (h : internal_stringslite_Index y0 y1 = some r) : AVal Tryd.prog Gl 84 [e_str y0, e_str y1] (e_i64 r) := by
  refine aval_of' T_internal_stringslite_Index Gl 143 Tryd.func84 T_internal_stringslite_Index_ok Tryd_mixed fun P hP _ => ?_
  unfold internal_stringslite_Index at h
  conv => cbv
  refine .mk ?_
  conv => cbv
  refine den_br h (fun _ h => ?_) (fun _ h => ?_)
  · conv => cbv
    cases h
    exact lp
  conv => cbv
  refine den_br h (fun _ h => ?_) (fun _ h => ?_)
  · conv => cbv
    refine den_elemS h fun b1 _ h => ?_
    conv => cbv
    refine den_call' hP h (fun _ h => v_indexByte h) fun r2 _ h => ?_
    conv => cbv
    cases h
    exact lp
  conv => cbv
  refine den_br h (fun _ h => ?_) (fun _ h => ?_)
  · conv => cbv
    cases h
    exact lp
  conv => cbv
  exact den_none h
def T_internal_stringslite_Cut : Tab := [(9, ⟨.str, 1, 16, [.str (.lit [])]⟩)]
theorem T_internal_stringslite_Cut_ok : TabOk Tryd.prog T_internal_stringslite_Cut := tab_ok [9]
theorem v_internal_stringslite_Cut {y0 : List UInt8} {y1 : List UInt8} {r : (List UInt8) × (List UInt8) × Bool} (h : internal_stringslite_Cut y0 y1 = some r) : AVal Tryd.prog Gl 71 [e_str y0, e_str y1] (.tup [e_str r.1, e_str r.2.1, e_bool r.2.2]) := by
  refine aval_of' T_internal_stringslite_Cut Gl 23 Tryd.func71 T_internal_stringslite_Cut_ok Tryd_mixed fun P hP _ => ?_
  unfold internal_stringslite_Cut at h
  conv => cbv
  refine den_call' hP h (fun _ h => v_internal_stringslite_Index h) fun r1 _ h => ?_
  conv => cbv
  refine den_br h (fun _ h => ?_) (fun _ h => ?_)
  · conv => cbv
    refine .dup ?_
    conv => cbv
    refine .mk (some []) (by kernel_rfl) ?_
    conv => cbv
    refine den_subs h fun t2 _ h => ?_
    conv => cbv
    refine .mk ?_
    conv => cbv
    refine den_subs h fun t3 _ h => ?_
    conv => cbv
    refine .mk ?_
    conv => cbv
    cases h
    exact .tup _ _ lp
  conv => cbv
  cases h
  exact .tup _ _ lp
def T_strings_Cut : Tab := []
theorem T_strings_Cut_ok : TabOk Tryd.prog T_strings_Cut := tab_ok []
theorem v_strings_Cut {y0 : List UInt8} {y1 : List UInt8} {r : (List UInt8) × (List UInt8) × Bool} (h : strings_Cut y0 y1 = some r) : AVal Tryd.prog Gl 44 [e_str y0, e_str y1] (.tup [e_str r.1, e_str r.2.1, e_bool r.2.2]) := by
  refine aval_of' T_strings_Cut Gl 13 Tryd.func44 T_strings_Cut_ok Tryd_mixed fun P hP _ => ?_
  unfold strings_Cut at h
  conv => cbv
  refine den_call' hP h (fun _ h => v_internal_stringslite_Cut h) fun r1 _ h => ?_
  conv => cbv
  refine .mk ?_
  conv => cbv
  cases h
  exact lp
def Tx_tags_letters_c1 : Tab := [(5, ⟨.int .u8, 1, 1, [.int .u8 (.lit 0)]⟩)]
theorem Tx_tags_letters_c1_ok : TabOk Tryd.prog Tx_tags_letters_c1 := tab_ok [5]
theorem x_tags_letters_c1 {y0 : Int} {y1 : Int} {y2 : Int} {r : Unit} (h : tags_letters_c1 y0 y1 y2 = some r) : ACalls Tryd.prog Gl 76 [e_u8 y0, .ptr 10000 0, .ptr 10001 0] [(10000, .var [.int .u8 (.v y1)]), (10001, .var [.int .u8 (.v y2)])] (fun x o' => x = .bool (.ite (.cmp .lss (.v y0) (.v y1)) (.lit true) (.cmp .gtr (.v y0) (.v y2))) ∧ o' = [(10000, .var [.int .u8 (.v y1)]), (10001, .var [.int .u8 (.v y2)])]) := by
  refine acalls_of' Tx_tags_letters_c1 Gl 13 [10000, 10001] Tryd.func76 Tx_tags_letters_c1_ok Tryd_mixed fun P hP _ => ?_
  unfold tags_letters_c1 at h
  conv => cbv
  refine .mk ?_
  conv => cbv
  refine .mk [(10000, 10000, false), (10001, 10001, false)] [] rfl rfl ?_ ?_
  · conv => cbv
    cases h
    exact lp
  conv => cbv
  cases h
  exact lp
def Tx_slices_IndexFunc_sbyte_byte : Tab := [(5, ⟨.int .u8, 1, 1, [.int .u8 (.lit 0)]⟩), (27, ⟨.slice 5, 1, 24, [.nilsl]⟩)]
theorem Tx_slices_IndexFunc_sbyte_byte_ok : TabOk Tryd.prog Tx_slices_IndexFunc_sbyte_byte := tab_ok [5, 27]
theorem x_slices_IndexFunc_sbyte_byte {y0 : List Int} {y1 : Int} {y2 : Int} {r : Int} (h : slices_IndexFunc_sbyte_byte y0 y1 y2 = some r) : ACalls Tryd.prog Gl 93 [(e_sl 1 e_u8) y0, .fn 76 [] [.ptr 10000 0, .ptr 10001 0]] [(10000, .var [.int .u8 (.v y1)]), (10001, .var [.int .u8 (.v y2)])] (fun x o' => x = .int .i64 (.v r) ∧ o' = [(10000, .var [.int .u8 (.v y1)]), (10001, .var [.int .u8 (.v y2)])]) := by
  refine acalls_of' Tx_slices_IndexFunc_sbyte_byte Gl 19 [10000, 10001] Tryd.func93 Tx_slices_IndexFunc_sbyte_byte_ok Tryd_mixed fun P hP _ => ?_
  unfold slices_IndexFunc_sbyte_byte at h
  conv => cbv
  refine den_cut' (r := r) slices_IndexFunc_sbyte_byte_K1 (fun j1 => ⟨[], [(10000, .var [.int .u8 (.v y1)]), (10001, .var [.int .u8 (.v y2)])], []⟩) ?_ (fun j1 h => ?_)
  · conv => cbv
    refine den_loop' (slices_IndexFunc_sbyte_byte_L1 y0 y1 y2) h (fun a2 => ⟨[(0, .sl 1 e_u8 y0), (1, .fn 76 [] [.ptr 10000 0, .ptr 10001 0]), (7, .int .i64 (.len y0)), (8, .int .i64 (.v a2))], [(10000, .var [.int .u8 (.v y1)]), (10001, .var [.int .u8 (.v y2)])], []⟩) (fun _ _ a2 x1 h hb1 hx1 => ?_)
    unfold slices_IndexFunc_sbyte_byte_L1 at h
    conv => cbv
    refine den_br h (fun _ h => ?_) (fun _ h => ?_)
    · conv => cbv
      refine .mk ?_
      conv => cbv
      refine den_elem h fun p3 _ h => ?_
      conv => cbv
      refine den_own' [(10000, 10000, false), (10001, 10001, false)] [] hP h (fun _ h => x_tags_letters_c1 h) fun r4 _ h => ?_
      conv => cbv
      refine den_br h (fun _ h => ?_) (fun _ h => ?_)
      · conv => cbv
        replace h := den_out h hx1
        refine .mk [(10000, 10000, false), (10001, 10001, false)] [] rfl rfl ?_ ?_
        · conv => cbv
          cases h
          exact lp
        conv => cbv
        cases h
        exact lp
      conv => cbv
      exact den_back' h hb1
    conv => cbv
    replace h := den_out h hx1
    exact den_join' h
  unfold slices_IndexFunc_sbyte_byte_K1 at h
  conv => cbv
  refine .mk [(10000, 10000, false), (10001, 10001, false)] [] rfl rfl ?_ ?_
  · conv => cbv
    cases h
    exact lp
  conv => cbv
  cases h
  exact lp
def Tx_slices_ContainsFunc_sbyte_byte : Tab := []
theorem Tx_slices_ContainsFunc_sbyte_byte_ok : TabOk Tryd.prog Tx_slices_ContainsFunc_sbyte_byte := tab_ok []
theorem x_slices_ContainsFunc_sbyte_byte {y0 : List Int} {y1 : Int} {y2 : Int} {r : Bool} (h : slices_ContainsFunc_sbyte_byte y0 y1 y2 = some r) : ACalls Tryd.prog Gl 75 [(e_sl 1 e_u8) y0, .fn 76 [] [.ptr 10000 0, .ptr 10001 0]] [(10000, .var [.int .u8 (.v y1)]), (10001, .var [.int .u8 (.v y2)])] (fun x o' => x = .bool (.v r) ∧ o' = [(10000, .var [.int .u8 (.v y1)]), (10001, .var [.int .u8 (.v y2)])]) := by
  refine acalls_of' Tx_slices_ContainsFunc_sbyte_byte Gl 9 [10000, 10001] Tryd.func75 Tx_slices_ContainsFunc_sbyte_byte_ok Tryd_mixed fun P hP _ => ?_
  unfold slices_ContainsFunc_sbyte_byte at h
  conv => cbv
  refine den_own' [(10000, 10000, false), (10001, 10001, false)] [] hP h (fun _ h => x_slices_IndexFunc_sbyte_byte h) fun r1 _ h => ?_
  conv => cbv
  refine .mk [(10000, 10000, false), (10001, 10001, false)] [] rfl rfl ?_ ?_
  · conv => cbv
    cases h
    exact lp
  conv => cbv
  cases h
  exact lp
def T_tags_letters : Tab := [(5, ⟨.int .u8, 1, 1, [.int .u8 (.lit 0)]⟩), (9, ⟨.str, 1, 16, [.str (.lit [])]⟩), (27, ⟨.slice 5, 1, 24, [.nilsl]⟩)]
theorem T_tags_letters_ok : TabOk Tryd.prog T_tags_letters := tab_ok [5, 9, 27]
theorem v_tags_letters {y0 : List UInt8} {y1 : Int} {y2 : Int} {r : Bool} (h : tags_letters y0 y1 y2 = some r) : AVal Tryd.prog Gl 51 [e_str y0, e_u8 y1, e_u8 y2] (e_bool r) := by
  refine aval_of' T_tags_letters Gl 12 Tryd.func51 T_tags_letters_ok Tryd_mixed fun P hP _ => ?_
  unfold tags_letters at h
  conv => cbv
  refine .own ?_
  conv => cbv
  refine .own ?_
  conv => cbv
  refine .mk ?_
  conv => cbv
  refine den_bytes (fun l1 => ((slices_ContainsFunc_sbyte_byte l1 y1 y2).bind fun r2 => some (!r2))) h fun l1 _ h => ?_
  conv => cbv
  refine den_own' [(4, 10000, false), (5, 10001, false)] [] hP h (fun _ h => x_slices_ContainsFunc_sbyte_byte h) fun r2 _ h => ?_
  conv => cbv
  cases h
  exact lp
def T_tags_comment : Tab := []
theorem T_tags_comment_ok : TabOk Tryd.prog T_tags_comment := tab_ok []
theorem v_tags_comment {y0 : List UInt8} {r : Bool} (h : tags_comment y0 = some r) : AVal Tryd.prog Gl 37 [e_str y0] (e_bool r) := by
  refine aval_of' T_tags_comment Gl 25 Tryd.func37 T_tags_comment_ok Tryd_mixed fun P hP _ => ?_
  unfold tags_comment at h
  conv => cbv
  refine den_call' hP h (fun _ h => v_strings_Cut h) fun r1 _ h => ?_
  conv => cbv
  refine .mk ?_
  conv => cbv
  refine .mk ?_
  conv => cbv
  refine den_br h (fun _ h => ?_) (fun _ h => ?_)
  · conv => cbv
    refine den_call' hP h (fun _ h => v_tags_letters h) fun r2 _ h => ?_
    conv => cbv
    refine .mk ?_
    conv => cbv
    refine den_br h (fun _ h => ?_) (fun _ h => ?_)
    · conv => cbv
      refine den_call' hP h (fun _ h => v_unicode_utf8_ValidString h) fun r3 _ h => ?_
      conv => cbv
      cases h
      exact lp
    conv => cbv
    cases h
    exact lp
  conv => cbv
  refine .mk ?_
  conv => cbv
  cases h
  exact lp
def T_tags_Comments_Write_c1 : Tab := []
theorem T_tags_Comments_Write_c1_ok : TabOk Tryd.prog T_tags_Comments_Write_c1 := tab_ok []
theorem v_tags_Comments_Write_c1 {y0 : List UInt8} {r : Bool} (h : tags_Comments_Write_c1 y0 = some r) : AVal Tryd.prog Gl 36 [e_str y0] (e_bool r) := by
  refine aval_of' T_tags_Comments_Write_c1 Gl 6 Tryd.func36 T_tags_Comments_Write_c1_ok Tryd_mixed fun P hP _ => ?_
  unfold tags_Comments_Write_c1 at h
  conv => cbv
  refine den_call' hP h (fun _ h => v_tags_comment h) fun r1 _ h => ?_
  conv => cbv
  cases h
  exact lp
def T_tags_low : Tab := [(3, ⟨.int .i64, 1, 8, [.int .i64 (.lit 0)]⟩), (5, ⟨.int .u8, 1, 1, [.int .u8 (.lit 0)]⟩), (27, ⟨.slice 5, 1, 24, [.nilsl]⟩)]
theorem T_tags_low_ok : TabOk Tryd.prog T_tags_low := tab_ok [3, 5, 27]
theorem v_tags_low {y0 : Int} {r : List Int} (h : tags_low y0 = some r) : AVal Tryd.prog Gl 39 [e_i64 y0] ((e_sl 1 e_u8) r) := by
  refine aval_of' T_tags_low Gl 15 Tryd.func39 T_tags_low_ok Tryd_mixed fun P hP _ => ?_
  unfold tags_low at h
  conv => cbv
  refine .mk ?_
  conv => cbv
  refine .mk ?_
  conv => cbv
  refine .data ?_
  conv => cbv
  cases h
  exact .sls lp
def Tw_slices_Concat_sbyte_byte : Tab := [(5, ⟨.int .u8, 1, 1, [.int .u8 (.lit 0)]⟩), (27, ⟨.slice 5, 1, 24, [.nilsl]⟩), (112, ⟨.slice 27, 1, 24, [.nilsl]⟩)]
theorem Tw_slices_Concat_sbyte_byte_ok : TabOk Tryd.prog Tw_slices_Concat_sbyte_byte := tab_ok [5, 27, 112]
theorem w_slices_Concat_sbyte_byte {y0 : List (List Int)} {r : List Int} (h : slices_Concat_sbyte_byte y0 = some r) : ACalls Tryd.prog Gl 38 [(e_sl 1 (e_sl 1 e_u8)) y0] [] (fun x o' => x = .osl 20000 ∧ o' = [(20000, .arr false 5 1 e_u8 r)]) := by
  refine acalls_of' Tw_slices_Concat_sbyte_byte Gl 36 [] Tryd.func38 Tw_slices_Concat_sbyte_byte_ok Tryd_mixed fun P hP _ => ?_
  unfold slices_Concat_sbyte_byte at h
  conv => cbv
  refine den_cut' (r := r) (slices_Concat_sbyte_byte_K1 y0) (fun j1 => ⟨[(0, .sl 1 (e_sl 1 e_u8) y0), (3, .int .i64 (.v j1))], [], []⟩) ?_ (fun j1 h => ?_)
  · conv => cbv
    refine den_loop' (slices_Concat_sbyte_byte_L2 y0) h (fun a7 => ⟨[(0, .sl 1 (e_sl 1 e_u8) y0), (3, .int .i64 (.v a7.1)), (9, .sl 1 (e_sl 1 e_u8) y0), (10, .int .i64 (.len y0)), (11, .int .i64 (.v a7.2))], [], []⟩) (fun _ _ a7 x1 h hb1 hx1 => ?_)
    unfold slices_Concat_sbyte_byte_L2 at h
    conv => cbv
    refine den_br h (fun _ h => ?_) (fun _ h => ?_)
    · conv => cbv
      refine den_elem h fun p8 _ h => ?_
      conv => cbv
      refine den_br h (fun _ h => ?_) (fun _ h => ?_)
      · conv => cbv
        exact den_none h
      conv => cbv
      exact den_back' h hb1
    conv => cbv
    replace h := den_out h hx1
    exact den_join' h
  unfold slices_Concat_sbyte_byte_K1 at h
  conv => cbv
  refine den_own' (hl := (.cons _ _ _ _ (.same _) (.cons _ _ _ _ (.same _) .nil))) (ho := True.intro) [(24, 20000, true)] [] hP h (fun _ h => g_grow h) fun r2 _ h => ?_
  conv => cbv
  refine den_cut' (r := r) slices_Concat_sbyte_byte_K2 (fun j3 => ⟨[(6, .osl 24)], [(24, .arr false 5 1 e_u8 j3)], []⟩) ?_ (fun j3 h => ?_)
  · conv => cbv
    refine den_loop' (slices_Concat_sbyte_byte_L1 y0) h (fun a4 => ⟨[(6, .osl 24), (25, .sl 1 (e_sl 1 e_u8) y0), (26, .int .i64 (.len y0)), (27, .int .i64 (.v a4.1))], [(24, .arr false 5 1 e_u8 a4.2)], []⟩) (fun _ _ a4 x1 h hb1 hx1 => ?_)
    unfold slices_Concat_sbyte_byte_L1 at h
    conv => cbv
    refine den_br h (fun _ h => ?_) (fun _ h => ?_)
    · conv => cbv
      refine den_elem h fun p5 _ h => ?_
      conv => cbv
      refine den_app_own e_u8 (xs := p5) h rfl (News.map rfl) fun l6 _ h => ?_
      conv => cbv
      exact den_back' h hb1
    conv => cbv
    replace h := den_out h hx1
    exact den_join' h
  unfold slices_Concat_sbyte_byte_K2 at h
  conv => cbv
  refine .mk [(24, 20000, false)] [] rfl rfl ?_ ?_
  · conv => cbv
    cases h
    exact lp
  · conv => cbv
    cases h
    exact lp
def T_tags_full : Tab := [(27, ⟨.slice 5, 1, 24, [.nilsl]⟩)]
theorem T_tags_full_ok : TabOk Tryd.prog T_tags_full := tab_ok [27]
theorem v_tags_full {y0 : List Int} {r : (List Int) × Int} (h : tags_full y0 = some r) : AVal Tryd.prog Gl 40 [(e_sl 1 e_u8) y0] (.tup [(e_sl 1 e_u8) r.1, e_i64 r.2]) := by
  refine aval_of' T_tags_full Gl 8 Tryd.func40 T_tags_full_ok Tryd_mixed fun P hP _ => ?_
  unfold tags_full at h
  conv => cbv
  refine den_br h (fun _ h => ?_) (fun _ h => ?_)
  · conv => cbv
    cases h
    exact .tup _ _ lp
  conv => cbv
  cases h
  exact .tup _ _ lp
def T_tags_Comments_Write : Tab := [(5, ⟨.int .u8, 1, 1, [.int .u8 (.lit 0)]⟩), (9, ⟨.str, 1, 16, [.str (.lit [])]⟩), (22, ⟨.slice 9, 1, 24, [.nilsl]⟩), (24, ⟨.struct [(0, 9), (1, 22)], 2, 40, [.str (.lit []), .nilsl]⟩), (27, ⟨.slice 5, 1, 24, [.nilsl]⟩), (112, ⟨.slice 27, 1, 24, [.nilsl]⟩)]
theorem T_tags_Comments_Write_ok : TabOk Tryd.prog T_tags_Comments_Write := tab_ok [5, 9, 22, 24, 27, 112]
theorem v_tags_Comments_Write {y0 : tags_Comments} {r : (List Int) × Int} (h : tags_Comments_Write y0 = some r) : AVal Tryd.prog Gl 11 [e_tags_Comments y0] (.tup [(e_sl 1 e_u8) r.1, e_i64 r.2]) := by
  refine aval_of' T_tags_Comments_Write Gl 48 Tryd.func11 T_tags_Comments_Write_ok Tryd_mixed fun P hP _ => ?_
  unfold tags_Comments_Write at h
  conv => cbv
  refine .own ?_
  conv => cbv
  refine den_call' hP h (fun _ h => v_unicode_utf8_ValidString h) fun r1 _ h => ?_
  conv => cbv
  refine .mk ?_
  conv => cbv
  refine den_br h (fun _ h => ?_) (fun _ h => ?_)
  · conv => cbv
    cases h
    exact .tup _ _ lp
  conv => cbv
  refine den_call' hP h (fun _ h => v_slices_ContainsFunc_sstring_string _ (fun _ _ h => v_tags_Comments_Write_c1 h) h) fun r2 _ h => ?_
  conv => cbv
  refine den_br h (fun _ h => ?_) (fun _ h => ?_)
  · conv => cbv
    cases h
    exact .tup _ _ lp
  conv => cbv
  refine den_cut' (r := r) (tags_Comments_Write_K1 y0) (fun j3 => ⟨[(1, .ptr 1 0), (4, .osl 28)], [(1, .var [.str (.v y0.Vendor), .sl 1 e_str y0.L]), (28, .arr false 5 1 e_u8 j3)], []⟩) ?_ (fun j3 h => ?_)
  · conv => cbv
    refine .mk (some [28]) (by kernel_rfl) ?_
    conv => cbv
    refine .mk ?_
    conv => cbv
    refine ⟨?_, ?_⟩
    · refine den_call' hP h (fun _ h => v_tags_low h) fun r11 _ h => ?_
      conv => cbv
      refine ⟨?_, ?_⟩
      · refine den_bytes (fun l12 => ((tags_low (y0.L.length : Int)).bind fun r13 => (slices_Concat_sbyte_byte [r11, l12, r13]).bind fun r14 => tags_Comments_Write_K1 y0 r14)) h fun l12 _ h => ?_
        conv => cbv
        refine den_call' hP h (fun _ h => v_tags_low h) fun r13 _ h => ?_
        conv => cbv
        refine .mk ?_
        conv => cbv
        refine .data ?_
        conv => cbv
        refine den_own' (hl := (.cons _ _ _ _ (.sls (.cons _ _ _ _ (VEq.of_lepl (.cons _ _ _ _ (.same _) .nil) rfl) (.cons _ _ _ _ (VEq.of_lepl (.cons _ _ _ _ (.same _) .nil) rfl) (.cons _ _ _ _ (VEq.of_lepl (.cons _ _ _ _ (.same _) .nil) rfl) .nil)))) .nil)) (ho := True.intro) [(28, 20000, true)] [] hP h (fun _ h => w_slices_Concat_sbyte_byte h) fun r14 _ h => ?_
        conv => cbv
        exact den_join' h
      · refine den_call' hP h (fun _ h => v_tags_low h) fun r15 _ h => ?_
        conv => cbv
        refine den_bytes (fun l16 => ((slices_Concat_sbyte_byte [r11, l16, r15]).bind fun r17 => tags_Comments_Write_K1 y0 r17)) h fun l16 _ h => ?_
        conv => cbv
        refine .mk ?_
        conv => cbv
        refine .data ?_
        conv => cbv
        refine den_own' (hl := (.cons _ _ _ _ (.sls (.cons _ _ _ _ (VEq.of_lepl (.cons _ _ _ _ (.same _) .nil) rfl) (.cons _ _ _ _ (VEq.of_lepl (.cons _ _ _ _ (.same _) .nil) rfl) (.cons _ _ _ _ (VEq.of_lepl (.cons _ _ _ _ (.same _) .nil) rfl) .nil)))) .nil)) (ho := True.intro) [(28, 20000, true)] [] hP h (fun _ h => w_slices_Concat_sbyte_byte h) fun r17 _ h => ?_
        conv => cbv
        exact den_join' h
    · refine den_bytes (fun l18 => ((tags_low (y0.Vendor.length : Int)).bind fun r19 => (tags_low (y0.L.length : Int)).bind fun r20 => (slices_Concat_sbyte_byte [r19, l18, r20]).bind fun r21 => tags_Comments_Write_K1 y0 r21)) h fun l18 _ h => ?_
      conv => cbv
      refine den_call' hP h (fun _ h => v_tags_low h) fun r19 _ h => ?_
      conv => cbv
      refine den_call' hP h (fun _ h => v_tags_low h) fun r20 _ h => ?_
      conv => cbv
      refine .mk ?_
      conv => cbv
      refine .data ?_
      conv => cbv
      refine den_own' (hl := (.cons _ _ _ _ (.sls (.cons _ _ _ _ (VEq.of_lepl (.cons _ _ _ _ (.same _) .nil) rfl) (.cons _ _ _ _ (VEq.of_lepl (.cons _ _ _ _ (.same _) .nil) rfl) (.cons _ _ _ _ (VEq.of_lepl (.cons _ _ _ _ (.same _) .nil) rfl) .nil)))) .nil)) (ho := True.intro) [(28, 20000, true)] [] hP h (fun _ h => w_slices_Concat_sbyte_byte h) fun r21 _ h => ?_
      conv => cbv
      exact den_join' h
  unfold tags_Comments_Write_K1 at h
  conv => cbv
  refine den_cut' (r := r) tags_Comments_Write_K2 (fun j4 => ⟨[(4, .osl 28)], [(28, .arr false 5 1 e_u8 j4)], []⟩) ?_ (fun j4 h => ?_)
  · conv => cbv
    refine den_loop' (tags_Comments_Write_L1 y0) h (fun a6 => ⟨[(4, .osl 28), (30, .sl 1 e_str y0.L), (31, .int .i64 (.len y0.L)), (32, .int .i64 (.v a6.1))], [(28, .arr false 5 1 e_u8 a6.2)], []⟩) (fun _ _ a6 x1 h hb1 hx1 => ?_)
    unfold tags_Comments_Write_L1 at h
    conv => cbv
    refine den_br h (fun _ h => ?_) (fun _ h => ?_)
    · conv => cbv
      refine den_elem h fun p7 _ h => ?_
      conv => cbv
      refine .mk ?_
      conv => cbv
      refine den_call' hP h (fun _ h => v_tags_low h) fun r8 _ h => ?_
      conv => cbv
      refine den_app_own e_u8 (xs := r8) h rfl (News.map rfl) fun l9 _ h => ?_
      conv => cbv
      refine den_app_own e_u8 (xs := (bytesI p7)) h rfl (News.map (by first | rfl | (cases p7 <;> rfl))) fun l10 _ h => ?_
      conv => cbv
      exact den_back' h hb1
    conv => cbv
    replace h := den_out h hx1
    exact den_join' h
  unfold tags_Comments_Write_K2 at h
  conv => cbv
  refine .mk ?_
  conv => cbv
  refine den_call' hP h (fun _ h => v_tags_full h) fun r5 _ h => ?_
  conv => cbv
  cases h
  exact lp
def T_jetsamlaw11_Bytes : Tab := [(5, ⟨.int .u8, 1, 1, [.int .u8 (.lit 0)]⟩), (27, ⟨.slice 5, 1, 24, [.nilsl]⟩)]
theorem T_jetsamlaw11_Bytes_ok : TabOk Tryd.prog T_jetsamlaw11_Bytes := tab_ok [5, 27]
theorem v_jetsamlaw11_Bytes {y0 : List Int} {y1 : List Int} {r : Bool} (h : jetsamlaw11_Bytes y0 y1 = some r) : AVal Tryd.prog Gl 18 [(e_sl 1 e_u8) y0, (e_sl 1 e_u8) y1] (e_bool r) := by
  refine aval_of' T_jetsamlaw11_Bytes Gl 26 Tryd.func18 T_jetsamlaw11_Bytes_ok Tryd_mixed fun P hP _ => ?_
  unfold jetsamlaw11_Bytes at h
  conv => cbv
  refine den_br h (fun _ h => ?_) (fun _ h => ?_)
  · conv => cbv
    cases h
    exact lp
  conv => cbv
  refine den_cut' (r := r) jetsamlaw11_Bytes_K1 (fun j1 => ⟨[], [], []⟩) ?_ (fun j1 h => ?_)
  · conv => cbv
    refine den_loop' (jetsamlaw11_Bytes_L1 y0 y1) h (fun a2 => ⟨[(0, .sl 1 e_u8 y0), (1, .sl 1 e_u8 y1), (5, .int .i64 (.v a2))], [], []⟩) (fun _ _ a2 x1 h hb1 hx1 => ?_)
    unfold jetsamlaw11_Bytes_L1 at h
    conv => cbv
    refine den_br h (fun _ h => ?_) (fun _ h => ?_)
    · conv => cbv
      refine .dup ?_
      conv => cbv
      refine .mk (some []) (by kernel_rfl) ?_
      conv => cbv
      refine den_elem h fun p3 _ h => ?_
      conv => cbv
      refine .mk ?_
      conv => cbv
      refine den_elem h fun p4 _ h => ?_
      conv => cbv
      refine den_br h (fun _ h => ?_) (fun _ h => ?_)
      · conv => cbv
        replace h := den_out h hx1
        cases h
        exact lp
      conv => cbv
      exact den_back' h hb1
    conv => cbv
    replace h := den_out h hx1
    exact den_join' h
  unfold jetsamlaw11_Bytes_K1 at h
  conv => cbv
  cases h
  exact lp
def T_tags_small_c1 : Tab := []
theorem T_tags_small_c1_ok : TabOk Tryd.prog T_tags_small_c1 := tab_ok []
theorem v_tags_small_c1 {y0 : Int} {r : Int} (h : tags_small_c1 y0 = some r) : AVal Tryd.prog Gl 73 [e_i32 y0] (e_i32 r) := by
  refine aval_of' T_tags_small_c1 Gl 13 Tryd.func73 T_tags_small_c1_ok Tryd_mixed fun P hP _ => ?_
  unfold tags_small_c1 at h
  conv => cbv
  refine .mk ?_
  conv => cbv
  refine den_br h (fun _ h => ?_) (fun _ h => ?_)
  · conv => cbv
    cases h
    exact lp
  conv => cbv
  cases h
  exact lp
theorem gl_first : ∀ c, c < 256 → ∃ cs, glook Gl 0 = some cs ∧ cs[c]? = some (.int .u8 (.lit (Lib.firstT c))) := by
  have h : ((List.range 256).all fun c => decide ((((glook Gl 0).getD [])[c]?.map fun v => match v with | .int .u8 (.lit n) => n | _ => -1) = some ((Lib.firstT c : Nat) : Int))) = true := by kernel_rfl
  intro c hc
  have h1 := of_decide_eq_true (List.all_eq_true.1 h c (List.mem_range.2 hc))
  refine ⟨(glook Gl 0).getD [], rfl, ?_⟩
  cases e : ((glook Gl 0).getD [])[c]? with
  | none => rw [e] at h1; cases h1
  | some v =>
    rw [e] at h1
    simp only [Option.map_some, Option.some.injEq] at h1
    split at h1
    · rw [h1]
    · have := Int.natCast_nonneg (Lib.firstT c); omega
theorem gl_acc : ∀ i, i < 16 → ∃ cs, glook Gl 1 = some cs ∧ cs[2 * i]? = some (.int .u8 (.lit (Lib.accLo i))) ∧ cs[2 * i + 1]? = some (.int .u8 (.lit (Lib.accHi i))) := by
  have h : ((List.range 16).all fun c => decide ((((glook Gl 1).getD [])[2 * c]?.map fun v => match v with | .int .u8 (.lit n) => n | _ => -1) = some ((Lib.accLo c : Nat) : Int) ∧ (((glook Gl 1).getD [])[2 * c + 1]?.map fun v => match v with | .int .u8 (.lit n) => n | _ => -1) = some ((Lib.accHi c : Nat) : Int))) = true := by kernel_rfl
  intro c hc
  obtain ⟨h1, h2⟩ := of_decide_eq_true (List.all_eq_true.1 h c (List.mem_range.2 hc))
  have go : ∀ (j : Nat) (n : Nat), (((glook Gl 1).getD [])[j]?.map fun v => match v with | .int .u8 (.lit n) => n | _ => -1) = some (n : Int) → ((glook Gl 1).getD [])[j]? = some (.int .u8 (.lit n)) := fun j n h1 => by
    cases e : ((glook Gl 1).getD [])[j]? with
    | none => rw [e] at h1; cases h1
    | some v =>
      rw [e] at h1
      simp only [Option.map_some, Option.some.injEq] at h1
      split at h1
      · rw [h1]
      · omega
  exact ⟨(glook Gl 1).getD [], rfl, go _ _ h1, go _ _ h2⟩
theorem glb_cell {G : Glb} {w : World} {F : Nat → Prop} {g j : Nat} {cs : List V} {k : IntKind} {n : Int} (h : GlbOk G w F) (hg : glook G g = some cs) (hj : cs[j]? = some (.int k (.lit n))) : w.cell? ⟨g, j, none⟩ = some (.int k n) := by
  have hd := h.ok g cs hg
  generalize hp : Value.pointer (some ⟨g, 0, none⟩) = p at hd
  generalize hq : V.rptr cs = q at hd
  cases hd with
  | rptr a xs hs hF hb cv hone hcv hr =>
    cases hq
    injection hp with hp
    injection hp with hp
    subst hp
    have e := (RA.of_int (RA.d (β := fun _ => none) (o := []) _ _ (hr j _ hj))).1
    have := hcv j _ hj
    simpa [e, IE.den] using this
  | _ => first | (cases hq; done) | (cases hp; done)
theorem utf8_tabs {w : World} {F : Nat → Prop} (h : GlbOk Gl w F) : Lib.Utf8Tabs 0 1 w := by
  refine ⟨fun c hc => ?_, fun i hi => ?_⟩
  · obtain ⟨cs, h1, h2⟩ := gl_first c hc
    exact glb_cell h h1 h2
  · obtain ⟨cs, h1, h2, h3⟩ := gl_acc i hi
    exact ⟨glb_cell h h1 h2, glb_cell h h1 h3⟩
def smf (x : Int) : Int := if 65 ≤ x ∧ x ≤ 90 then x + 32 else x
theorem small_c1 (x : Int) : tags_small_c1 x = some (smf x) := by
  unfold tags_small_c1 smf
  by_cases h : 65 ≤ x ∧ x ≤ 90
  · have e1 : IntKind.i32.wrap (x + 97) = x + 97 := wrap_id ((has_iff _ _).2 (by simp only [lo, hi]; omega))
    have e2 : IntKind.i32.wrap (x + 97 - 65) = x + 97 - 65 := wrap_id ((has_iff _ _).2 (by simp only [lo, hi]; omega))
    rw [e1, e2, if_pos h, if_pos (by simp [h.1, h.2])]
    congr 1
    omega
  · rw [if_neg h, if_neg (by simp only [ge_iff_le, decide_eq_true_eq]; split <;> simp_all)]
theorem mapD_small : ∀ (l : List UInt8), l.all (fun b => decide (b.toNat < 128)) = true → Lib.mapD smf l = l.map foldB
  | [], _ => rfl
  | b :: t, h => by
    rw [List.all_cons, Bool.and_eq_true] at h
    have hb : b.toNat < 128 := by simpa using h.1
    rw [Lib.mapD_step smf (b :: t) (by simp), show Lib.decodeL (b :: t) = (b.toNat, 1) from by rw [Lib.decodeL_N]; exact Lib.decodeN_ascii _ _ _ _ _ hb]
    simp only [List.drop_succ_cons, List.drop_zero, List.map_cons]
    rw [mapD_small t h.2]
    have h0 : 0 ≤ smf b.toNat ∧ smf b.toNat ≤ 127 := by unfold smf; split <;> omega
    rw [if_pos h0.1, Lib.encodeRune, Lib.encodeRuneZ_one h0.1 h0.2]
    simp only [List.map_cons, List.map_nil, List.singleton_append, List.cons.injEq, and_true]
    unfold smf foldB
    by_cases hc : 65 ≤ b.toNat ∧ b.toNat ≤ 90
    · rw [if_pos hc, if_pos (by omega)]
      apply UInt8.toNat_inj.1
      have e : ((b.toNat : Int) + 32).toNat = b.toNat + 32 := by omega
      rw [e]
      simp
    · rw [if_neg hc, if_neg (by omega)]
      simp
theorem v_mapSmall {s r : List UInt8} (h : mapSmallF tags_small_c1 s = some r) : AVal Tryd.prog Gl 72 [.fn 73 [] [], .str (.v s)] (.str (.v r)) := by
  unfold mapSmallF at h
  split at h
  case isFalse => cases h
  rename_i hc
  cases h
  refine aval_of_calls_g (vs0 := #[.func (.func 73) #[] #[], .string ⟨s.toArray⟩]) (v := .string ⟨(s.map foldB).toArray⟩) Tryd.func72 rfl rfl (fun w F β vs h1 h2 => ?_) (fun w F hG => ?_) (fun w F => .str _ _ rfl ?_)
  · have hl2 : vs.size = 2 := by simpa using h1
    have g0 : vs[0]? = some (vs[0]'(by omega)) := Array.getElem?_eq_getElem (by omega)
    have g1 : vs[1]? = some (vs[1]'(by omega)) := Array.getElem?_eq_getElem (by omega)
    have e0 : vs[0]'(by omega) = .func (.func 73) #[] #[] := by
      have r0 := h2 0 _ _ g0 rfl
      obtain ⟨fs, cs, e, hf, hcs, _⟩ := RA.of_fn r0
      rw [e, Array.eq_empty_of_size_eq_zero hf, Array.eq_empty_of_size_eq_zero hcs]
    have e1 := (RA.of_str (h2 1 _ _ g1 rfl)).1
    apply Array.ext
    · simpa using hl2
    · intro i h1' h2'
      simp at h2'
      match i, h2' with
      | 0, _ => simpa using e0
      | 1, _ => exact e1
  · have hm := Tryd.strings_Map_grows 73 #[] (enters_of Tryd.func73 (by kernel_rfl) rfl) smf ⟨s.toArray⟩ w (by simpa [ByteArray.size] using hc.2) (fun W x hx hb => ?_) (fun x hx => by unfold smf; split <;> omega) (utf8_tabs hG)
    · refine hm.mono ?_
      rintro e w' ⟨rfl, hb⟩
      refine ⟨?_, keep_below rfl hb⟩
      rw [show (⟨s.toArray⟩ : ByteArray).data.toList = s from rfl, mapD_small s hc.1]
    · refine ((v_tags_small_c1 (small_c1 x)).calls rfl (glb_later rfl hG hb) rfl (fun i v y h1 h2 => ?_)).mono ?_
      · match i, h1, h2 with
        | 0, h1, h2 =>
          cases h1; cases h2
          exact .int _ _ _ rfl ((has_iff _ _).2 (by simp only [lo, hi]; omega))
        | i + 1, h1, _ => simp at h1
      · rintro e w' ⟨v, F', rfl, h3, h4, _⟩
        obtain ⟨rfl, _⟩ := RA.of_int (RA.d (β := fun _ => none) (o := []) _ _ h4)
        exact ⟨rfl, h3⟩
  · have : LIM = 9223372036854775807 := rfl
    simp only [SE.den, List.length_map]
    omega
def T_tags_small : Tab := []
theorem T_tags_small_ok : TabOk Tryd.prog T_tags_small := tab_ok []
theorem v_tags_small {y0 : List UInt8} {r : List UInt8} (h : tags_small y0 = some r) : AVal Tryd.prog Gl 45 [e_str y0] (e_str r) := by
  refine aval_of' T_tags_small Gl 5 Tryd.func45 T_tags_small_ok Tryd_mixed fun P hP _ => ?_
  unfold tags_small at h
  conv => cbv
  refine den_call' hP h (fun _ h => v_mapSmall h) fun r1 _ h => ?_
  conv => cbv
  cases h
  exact lp
def T_tags_Comments_Get : Tab := [(9, ⟨.str, 1, 16, [.str (.lit [])]⟩), (22, ⟨.slice 9, 1, 24, [.nilsl]⟩), (24, ⟨.struct [(0, 9), (1, 22)], 2, 40, [.str (.lit []), .nilsl]⟩)]
theorem T_tags_Comments_Get_ok : TabOk Tryd.prog T_tags_Comments_Get := tab_ok [9, 22, 24]
theorem v_tags_Comments_Get {y0 : tags_Comments} {y1 : List UInt8} {r : List (List UInt8)} (h : tags_Comments_Get y0 y1 = some r) : AVal Tryd.prog Gl 16 [e_tags_Comments y0, e_str y1] ((e_sl 1 e_str) r) := by
  refine aval_of' T_tags_Comments_Get Gl 38 Tryd.func16 T_tags_Comments_Get_ok Tryd_mixed fun P hP _ => ?_
  unfold tags_Comments_Get at h
  conv => cbv
  refine .own ?_
  conv => cbv
  refine den_cut' (r := r) tags_Comments_Get_K1 (fun j1 => ⟨[(5, .osl 1005)], [(1005, .arr false 9 1 e_str j1)], []⟩) ?_ (fun j1 h => ?_)
  · conv => cbv
    refine den_loop (tags_Comments_Get_L1 y0 y1) h (fun a2 : Int × (List (List UInt8)) => ⟨[(1, .str (.v y1)), (5, .osl 1005), (12, .sl 1 e_str y0.L), (13, .int .i64 (.len y0.L)), (14, .int .i64 (.v a2.1))], [(1005, .arr false 9 1 e_str a2.2)], []⟩) ?_ (fun _ _ a2 x1 h hb1 hx1 => ?_)
    · intro j0 hj
      conv => cbv
      subst hj
      exact ⟨⟨.arr _ _ _ _ _ _ rfl, trivial⟩, .same _, .own _ _ _ _ _ _ rfl rfl, .same _, .same _, .int _ _ _ rfl, trivial⟩
    unfold tags_Comments_Get_L1 at h
    conv => cbv
    refine den_br h (fun _ h => ?_) (fun _ h => ?_)
    · conv => cbv
      refine den_cut' (r := x1) (tags_Comments_Get_K2 a2) (fun j3 => ⟨[(1, .str (.v y1)), (5, .osl 1005), (12, .sl 1 e_str y0.L), (13, .int .i64 (.len y0.L)), (14, .int .i64 (.v a2.1))], [(1005, .arr false 9 1 e_str j3)], []⟩) ?_ (fun j3 h => ?_)
      · conv => cbv
        refine den_elem h fun p4 _ h => ?_
        conv => cbv
        refine den_call' hP h (fun _ h => v_strings_Cut h) fun r5 _ h => ?_
        conv => cbv
        refine .mk ?_
        conv => cbv
        refine .mk ?_
        conv => cbv
        refine den_br h (fun _ h => ?_) (fun _ h => ?_)
        · conv => cbv
          refine den_call' hP h (fun _ h => v_tags_small h) fun r6 _ h => ?_
          conv => cbv
          refine den_call' hP h (fun _ h => v_tags_small h) fun r7 _ h => ?_
          conv => cbv
          refine den_br h (fun _ h => ?_) (fun _ h => ?_)
          · conv => cbv
            refine .data ?_
            conv => cbv
            refine den_app_own e_str (xs := [r5.2.1]) h rfl lp fun l8 _ h => ?_
            conv => cbv
            exact den_join' h
          conv => cbv
          exact den_join' h
        conv => cbv
        exact den_join' h
      unfold tags_Comments_Get_K2 at h
      conv => cbv
      exact den_back' h hb1
    conv => cbv
    replace h := den_out h hx1
    exact den_join' h
  unfold tags_Comments_Get_K1 at h
  conv => cbv
  cases h
  exact lp
def T_jetsamlaw13_texts : Tab := [(9, ⟨.str, 1, 16, [.str (.lit [])]⟩), (22, ⟨.slice 9, 1, 24, [.nilsl]⟩)]
theorem T_jetsamlaw13_texts_ok : TabOk Tryd.prog T_jetsamlaw13_texts := tab_ok [9, 22]
theorem v_jetsamlaw13_texts {y0 : List (List UInt8)} {y1 : List (List UInt8)} {r : Bool} (h : jetsamlaw13_texts y0 y1 = some r) : AVal Tryd.prog Gl 15 [(e_sl 1 e_str) y0, (e_sl 1 e_str) y1] (e_bool r) := by
  refine aval_of' T_jetsamlaw13_texts Gl 26 Tryd.func15 T_jetsamlaw13_texts_ok Tryd_mixed fun P hP _ => ?_
  unfold jetsamlaw13_texts at h
  conv => cbv
  refine den_br h (fun _ h => ?_) (fun _ h => ?_)
  · conv => cbv
    cases h
    exact lp
  conv => cbv
  refine den_cut' (r := r) jetsamlaw13_texts_K1 (fun j1 => ⟨[], [], []⟩) ?_ (fun j1 h => ?_)
  · conv => cbv
    refine den_loop' (jetsamlaw13_texts_L1 y0 y1) h (fun a2 => ⟨[(0, .sl 1 e_str y0), (1, .sl 1 e_str y1), (5, .int .i64 (.v a2))], [], []⟩) (fun _ _ a2 x1 h hb1 hx1 => ?_)
    unfold jetsamlaw13_texts_L1 at h
    conv => cbv
    refine den_br h (fun _ h => ?_) (fun _ h => ?_)
    · conv => cbv
      refine .dup ?_
      conv => cbv
      refine .mk (some []) (by kernel_rfl) ?_
      conv => cbv
      refine den_elem h fun p3 _ h => ?_
      conv => cbv
      refine .mk ?_
      conv => cbv
      refine den_elem h fun p4 _ h => ?_
      conv => cbv
      refine den_br h (fun _ h => ?_) (fun _ h => ?_)
      · conv => cbv
        replace h := den_out h hx1
        cases h
        exact lp
      conv => cbv
      exact den_back' h hb1
    conv => cbv
    replace h := den_out h hx1
    exact den_join' h
  unfold jetsamlaw13_texts_K1 at h
  conv => cbv
  cases h
  exact lp
def T_jetsamlaw13_awake : Tab := [(5, ⟨.int .u8, 1, 1, [.int .u8 (.lit 0)]⟩), (9, ⟨.str, 1, 16, [.str (.lit [])]⟩), (22, ⟨.slice 9, 1, 24, [.nilsl]⟩), (24, ⟨.struct [(0, 9), (1, 22)], 2, 40, [.str (.lit []), .nilsl]⟩), (27, ⟨.slice 5, 1, 24, [.nilsl]⟩)]
theorem T_jetsamlaw13_awake_ok : TabOk Tryd.prog T_jetsamlaw13_awake := tab_ok [5, 9, 22, 24, 27]
theorem v_jetsamlaw13_awake {r : Bool} (h : jetsamlaw13_awake = some r) : AVal Tryd.prog Gl 10 [] (e_bool r) := by
  refine aval_of' T_jetsamlaw13_awake Gl 24 Tryd.func10 T_jetsamlaw13_awake_ok Tryd_mixed fun P hP _ => ?_
  unfold jetsamlaw13_awake at h
  conv => cbv
  refine .data ?_
  conv => cbv
  refine .mk ?_
  conv => cbv
  refine den_call' hP h (fun _ h => v_tags_Comments_Write h) fun r1 _ h => ?_
  conv => cbv
  refine .mk ?_
  conv => cbv
  refine den_br h (fun _ h => ?_) (fun _ h => ?_)
  · conv => cbv
    refine .data ?_
    conv => cbv
    refine den_call' hP h (fun _ h => v_jetsamlaw11_Bytes h) fun r2 _ h => ?_
    conv => cbv
    refine .mk ?_
    conv => cbv
    refine den_br h (fun _ h => ?_) (fun _ h => ?_)
    · conv => cbv
      refine den_call' hP h (fun _ h => v_tags_Comments_Get h) fun r3 _ h => ?_
      conv => cbv
      refine .data ?_
      conv => cbv
      refine den_call' hP h (fun _ h => v_jetsamlaw13_texts h) fun r4 _ h => ?_
      conv => cbv
      cases h
      exact lp
    conv => cbv
    cases h
    exact lp
  conv => cbv
  refine .mk ?_
  conv => cbv
  cases h
  exact lp
def T_jetsamref13_Text : Tab := [(3, ⟨.int .i64, 1, 8, [.int .i64 (.lit 0)]⟩), (5, ⟨.int .u8, 1, 1, [.int .u8 (.lit 0)]⟩), (9, ⟨.str, 1, 16, [.str (.lit [])]⟩)]
theorem T_jetsamref13_Text_ok : TabOk Tryd.prog T_jetsamref13_Text := tab_ok [3, 5, 9]
theorem v_jetsamref13_Text {y0 : List UInt8} {r : Bool} (h : jetsamref13_Text y0 = some r) : AVal Tryd.prog Gl 41 [e_str y0] (e_bool r) := by
  refine aval_of' T_jetsamref13_Text Gl 102 Tryd.func41 T_jetsamref13_Text_ok Tryd_mixed fun P hP _ => ?_
  unfold jetsamref13_Text at h
  conv => cbv
  refine den_cut' (r := r) jetsamref13_Text_K1 (fun j1 => ⟨[], [], []⟩) ?_ (fun j1 h => ?_)
  · conv => cbv
    refine den_loop' (jetsamref13_Text_L1 y0) h (fun a2 => ⟨[(0, .str (.v y0)), (3, .int .i64 (.v a2))], [], []⟩) (fun _ _ a2 x1 h hb1 hx1 => ?_)
    unfold jetsamref13_Text_L1 at h
    conv => cbv
    refine den_br h (fun _ h => ?_) (fun _ h => ?_)
    · conv => cbv
      refine den_elemS h fun b3 _ h => ?_
      conv => cbv
      refine den_cut' (r := x1) (jetsamref13_Text_K2 y0 a2 b3) (fun j4 => ⟨[(0, .str (.v y0)), (3, .int .i64 (.v a2)), (4, .int .u8 (.byte b3)), (5, .int .i64 (.v j4.1)), (6, .int .i64 (.v j4.2))], [], []⟩) ?_ (fun j4 h => ?_)
      · conv => cbv
        refine den_br h (fun _ h => ?_) (fun _ h => ?_)
        · conv => cbv
          exact den_join' h
        conv => cbv
        refine .mk ?_
        conv => cbv
        refine den_br h (fun _ h => ?_) (fun _ h => ?_)
        · conv => cbv
          exact den_join' h
        conv => cbv
        refine .mk ?_
        conv => cbv
        refine den_br h (fun _ h => ?_) (fun _ h => ?_)
        · conv => cbv
          exact den_join' h
        conv => cbv
        refine .mk ?_
        conv => cbv
        refine den_br h (fun _ h => ?_) (fun _ h => ?_)
        · conv => cbv
          exact den_join' h
        conv => cbv
        exact den_join' h
      unfold jetsamref13_Text_K2 at h
      conv => cbv
      refine .mk ?_
      conv => cbv
      refine den_br h (fun _ h => ?_) (fun _ h => ?_)
      · conv => cbv
        replace h := den_out h hx1
        cases h
        exact lp
      conv => cbv
      refine den_cut' (r := x1) (jetsamref13_Text_K3 y0 a2 j4) (fun j5 => ⟨[(0, .str (.v y0)), (3, .int .i64 (.v a2)), (5, .int .i64 (.v j4.1)), (6, .int .i64 (.v j4.2)), (7, .int .i64 (.v j5))], [], []⟩) ?_ (fun j5 h => ?_)
      · conv => cbv
        refine den_br h (fun _ h => ?_) (fun _ h => ?_)
        · conv => cbv
          refine .mk ?_
          conv => cbv
          refine den_chk h fun h => ?_
          conv => cbv
          refine den_chk h fun h => ?_
          conv => cbv
          exact den_join' h
        conv => cbv
        exact den_join' h
      unfold jetsamref13_Text_K3 at h
      conv => cbv
      refine den_cut' (r := x1) (jetsamref13_Text_K4 a2 j4) (fun j6 => ⟨[(0, .str (.v y0)), (3, .int .i64 (.v a2)), (5, .int .i64 (.v j4.1)), (6, .int .i64 (.v j4.2)), (7, .int .i64 (.v j6))], [], []⟩) ?_ (fun j6 h => ?_)
      · conv => cbv
        refine den_loop' (jetsamref13_Text_L2 y0 a2 j4) h (fun a7 => ⟨[(0, .str (.v y0)), (3, .int .i64 (.v a2)), (5, .int .i64 (.v j4.1)), (6, .int .i64 (.v j4.2)), (7, .int .i64 (.v a7.1)), (8, .int .i64 (.v a7.2))], [], []⟩) (fun _ _ a7 x2 h hb2 hx2 => ?_)
        unfold jetsamref13_Text_L2 at h
        conv => cbv
        refine den_br h (fun _ h => ?_) (fun _ h => ?_)
        · conv => cbv
          refine .mk ?_
          conv => cbv
          refine den_elemS h fun b8 _ h => ?_
          conv => cbv
          refine .mk ?_
          conv => cbv
          refine den_br h (fun _ h => ?_) (fun _ h => ?_)
          · conv => cbv
            replace h := den_out h hx2
            replace h := den_out h hx1
            cases h
            exact lp
          conv => cbv
          refine den_elemS h fun b9 _ h => ?_
          conv => cbv
          refine den_br h (fun _ h => ?_) (fun _ h => ?_)
          · conv => cbv
            replace h := den_out h hx2
            replace h := den_out h hx1
            cases h
            exact lp
          conv => cbv
          refine .mk ?_
          conv => cbv
          refine den_elemS h fun b10 _ h => ?_
          conv => cbv
          exact den_back' h hb2
        conv => cbv
        replace h := den_out h hx2
        exact den_join' h
      unfold jetsamref13_Text_K4 at h
      conv => cbv
      refine .mk ?_
      conv => cbv
      refine .mk ?_
      conv => cbv
      refine den_br h (fun _ h => ?_) (fun _ h => ?_)
      · conv => cbv
        replace h := den_out h hx1
        cases h
        exact lp
      conv => cbv
      exact den_back' h hb1
    conv => cbv
    replace h := den_out h hx1
    exact den_join' h
  unfold jetsamref13_Text_K1 at h
  conv => cbv
  cases h
  exact lp
def T_jetsamref13_Comment : Tab := [(9, ⟨.str, 1, 16, [.str (.lit [])]⟩)]
theorem T_jetsamref13_Comment_ok : TabOk Tryd.prog T_jetsamref13_Comment := tab_ok [9]
theorem v_jetsamref13_Comment {y0 : List UInt8} {r : Int} (h : jetsamref13_Comment y0 = some r) : AVal Tryd.prog Gl 12 [e_str y0] (e_i64 r) := by
  refine aval_of' T_jetsamref13_Comment Gl 32 Tryd.func12 T_jetsamref13_Comment_ok Tryd_mixed fun P hP _ => ?_
  unfold jetsamref13_Comment at h
  conv => cbv
  refine den_cut' (r := r) jetsamref13_Comment_K1 (fun j1 => ⟨[], [], []⟩) ?_ (fun j1 h => ?_)
  · conv => cbv
    refine den_loop' (jetsamref13_Comment_L1 y0) h (fun a2 => ⟨[(0, .str (.v y0)), (3, .int .i64 (.v a2))], [], []⟩) (fun _ _ a2 x1 h hb1 hx1 => ?_)
    unfold jetsamref13_Comment_L1 at h
    conv => cbv
    refine den_br h (fun _ h => ?_) (fun _ h => ?_)
    · conv => cbv
      refine den_elemS h fun b3 _ h => ?_
      conv => cbv
      refine den_br h (fun _ h => ?_) (fun _ h => ?_)
      · conv => cbv
        refine .mk ?_
        conv => cbv
        refine den_br h (fun _ h => ?_) (fun _ h => ?_)
        · conv => cbv
          replace h := den_out h hx1
          cases h
          exact lp
        conv => cbv
        refine den_call' hP h (fun _ h => v_jetsamref13_Text h) fun r4 _ h => ?_
        conv => cbv
        refine den_br h (fun _ h => ?_) (fun _ h => ?_)
        · conv => cbv
          replace h := den_out h hx1
          cases h
          exact lp
        conv => cbv
        replace h := den_out h hx1
        cases h
        exact lp
      conv => cbv
      refine den_elemS h fun b5 _ h => ?_
      conv => cbv
      refine .mk ?_
      conv => cbv
      refine den_br h (fun _ h => ?_) (fun _ h => ?_)
      · conv => cbv
        replace h := den_out h hx1
        cases h
        exact lp
      conv => cbv
      refine den_elemS h fun b6 _ h => ?_
      conv => cbv
      refine den_br h (fun _ h => ?_) (fun _ h => ?_)
      · conv => cbv
        replace h := den_out h hx1
        cases h
        exact lp
      conv => cbv
      exact den_back' h hb1
    conv => cbv
    replace h := den_out h hx1
    exact den_join' h
  unfold jetsamref13_Comment_K1 at h
  conv => cbv
  cases h
  exact lp
def T_jetsamlaw13_fold : Tab := []
theorem T_jetsamlaw13_fold_ok : TabOk Tryd.prog T_jetsamlaw13_fold := tab_ok []
theorem v_jetsamlaw13_fold {y0 : Int} {r : Int} (h : jetsamlaw13_fold y0 = some r) : AVal Tryd.prog Gl 42 [e_u8 y0] (e_u8 r) := by
  refine aval_of' T_jetsamlaw13_fold Gl 12 Tryd.func42 T_jetsamlaw13_fold_ok Tryd_mixed fun P hP _ => ?_
  unfold jetsamlaw13_fold at h
  conv => cbv
  refine .mk ?_
  conv => cbv
  refine den_br h (fun _ h => ?_) (fun _ h => ?_)
  · conv => cbv
    cases h
    exact lp
  conv => cbv
  cases h
  exact lp
def T_jetsamlaw13_same : Tab := [(9, ⟨.str, 1, 16, [.str (.lit [])]⟩)]
theorem T_jetsamlaw13_same_ok : TabOk Tryd.prog T_jetsamlaw13_same := tab_ok [9]
theorem v_jetsamlaw13_same {y0 : List UInt8} {y1 : List UInt8} {r : Bool} (h : jetsamlaw13_same y0 y1 = some r) : AVal Tryd.prog Gl 13 [e_str y0, e_str y1] (e_bool r) := by
  refine aval_of' T_jetsamlaw13_same Gl 26 Tryd.func13 T_jetsamlaw13_same_ok Tryd_mixed fun P hP _ => ?_
  unfold jetsamlaw13_same at h
  conv => cbv
  refine den_br h (fun _ h => ?_) (fun _ h => ?_)
  · conv => cbv
    cases h
    exact lp
  conv => cbv
  refine den_cut' (r := r) jetsamlaw13_same_K1 (fun j1 => ⟨[], [], []⟩) ?_ (fun j1 h => ?_)
  · conv => cbv
    refine den_loop' (jetsamlaw13_same_L1 y0 y1) h (fun a2 => ⟨[(0, .str (.v y0)), (1, .str (.v y1)), (5, .int .i64 (.v a2))], [], []⟩) (fun _ _ a2 x1 h hb1 hx1 => ?_)
    unfold jetsamlaw13_same_L1 at h
    conv => cbv
    refine den_br h (fun _ h => ?_) (fun _ h => ?_)
    · conv => cbv
      refine .dup ?_
      conv => cbv
      refine .mk (some []) (by kernel_rfl) ?_
      conv => cbv
      refine den_elemS h fun b3 _ h => ?_
      conv => cbv
      refine .mk ?_
      conv => cbv
      refine den_elemS h fun b4 _ h => ?_
      conv => cbv
      refine den_call' hP h (fun _ h => v_jetsamlaw13_fold h) fun r5 _ h => ?_
      conv => cbv
      refine den_call' hP h (fun _ h => v_jetsamlaw13_fold h) fun r6 _ h => ?_
      conv => cbv
      refine den_br h (fun _ h => ?_) (fun _ h => ?_)
      · conv => cbv
        replace h := den_out h hx1
        cases h
        exact lp
      conv => cbv
      exact den_back' h hb1
    conv => cbv
    replace h := den_out h hx1
    exact den_join' h
  unfold jetsamlaw13_same_K1 at h
  conv => cbv
  cases h
  exact lp
def T_slices_Concat_sstring_string : Tab := [(9, ⟨.str, 1, 16, [.str (.lit [])]⟩), (22, ⟨.slice 9, 1, 24, [.nilsl]⟩), (114, ⟨.slice 22, 1, 24, [.nilsl]⟩)]
theorem T_slices_Concat_sstring_string_ok : TabOk Tryd.prog T_slices_Concat_sstring_string := tab_ok [9, 22, 114]
theorem v_slices_Concat_sstring_string {y0 : List (List (List UInt8))} {r : List (List UInt8)} (h : slices_Concat_sstring_string y0 = some r) : AVal Tryd.prog Gl 43 [(e_sl 1 (e_sl 1 e_str)) y0] ((e_sl 1 e_str) r) := by
  refine aval_of' T_slices_Concat_sstring_string Gl 36 Tryd.func43 T_slices_Concat_sstring_string_ok Tryd_mixed fun P hP _ => ?_
  unfold slices_Concat_sstring_string at h
  conv => cbv
  refine den_cut' (r := r) (slices_Concat_sstring_string_K1 y0) (fun j1 => ⟨[(0, .sl 1 (e_sl 1 e_str) y0), (3, .int .i64 (.v j1))], [], []⟩) ?_ (fun j1 h => ?_)
  · conv => cbv
    refine den_loop' (slices_Concat_sstring_string_L2 y0) h (fun a7 => ⟨[(0, .sl 1 (e_sl 1 e_str) y0), (3, .int .i64 (.v a7.1)), (9, .sl 1 (e_sl 1 e_str) y0), (10, .int .i64 (.len y0)), (11, .int .i64 (.v a7.2))], [], []⟩) (fun _ _ a7 x1 h hb1 hx1 => ?_)
    unfold slices_Concat_sstring_string_L2 at h
    conv => cbv
    refine den_br h (fun _ h => ?_) (fun _ h => ?_)
    · conv => cbv
      refine den_elem h fun p8 _ h => ?_
      conv => cbv
      refine den_br h (fun _ h => ?_) (fun _ h => ?_)
      · conv => cbv
        exact den_none h
      conv => cbv
      exact den_back' h hb1
    conv => cbv
    replace h := den_out h hx1
    exact den_join' h
  unfold slices_Concat_sstring_string_K1 at h
  conv => cbv
  refine den_own' (hl := (.cons _ _ _ _ (.same _) (.cons _ _ _ _ (.same _) .nil))) (ho := True.intro) [(24, 20000, true)] [] hP h (fun _ h => g_growS h) fun r2 _ h => ?_
  conv => cbv
  refine den_cut' (r := r) slices_Concat_sstring_string_K2 (fun j3 => ⟨[(6, .osl 24)], [(24, .arr false 9 1 e_str j3)], []⟩) ?_ (fun j3 h => ?_)
  · conv => cbv
    refine den_loop' (slices_Concat_sstring_string_L1 y0) h (fun a4 => ⟨[(6, .osl 24), (25, .sl 1 (e_sl 1 e_str) y0), (26, .int .i64 (.len y0)), (27, .int .i64 (.v a4.1))], [(24, .arr false 9 1 e_str a4.2)], []⟩) (fun _ _ a4 x1 h hb1 hx1 => ?_)
    unfold slices_Concat_sstring_string_L1 at h
    conv => cbv
    refine den_br h (fun _ h => ?_) (fun _ h => ?_)
    · conv => cbv
      refine den_elem h fun p5 _ h => ?_
      conv => cbv
      refine den_app_own e_str (xs := p5) h rfl (News.map rfl) fun l6 _ h => ?_
      conv => cbv
      exact den_back' h hb1
    conv => cbv
    replace h := den_out h hx1
    exact den_join' h
  unfold slices_Concat_sstring_string_K2 at h
  conv => cbv
  cases h
  exact lp
def T_tags_Comments_With : Tab := [(22, ⟨.slice 9, 1, 24, [.nilsl]⟩), (24, ⟨.struct [(0, 9), (1, 22)], 2, 40, [.str (.lit []), .nilsl]⟩), (114, ⟨.slice 22, 1, 24, [.nilsl]⟩)]
theorem T_tags_Comments_With_ok : TabOk Tryd.prog T_tags_Comments_With := tab_ok [22, 24, 114]
theorem v_tags_Comments_With {y0 : tags_Comments} {y1 : List (List UInt8)} {r : tags_Comments} (h : tags_Comments_With y0 y1 = some r) : AVal Tryd.prog Gl 14 [e_tags_Comments y0, (e_sl 1 e_str) y1] (e_tags_Comments r) := by
  refine aval_of' T_tags_Comments_With Gl 12 Tryd.func14 T_tags_Comments_With_ok Tryd_mixed fun P hP _ => ?_
  unfold tags_Comments_With at h
  conv => cbv
  refine .own ?_
  conv => cbv
  refine .mk ?_
  conv => cbv
  refine .data ?_
  conv => cbv
  refine den_call' hP h (fun _ h => v_slices_Concat_sstring_string h) fun r1 _ h => ?_
  conv => cbv
  cases h
  exact lp
def T_jetsamlaw13_TagsGets : Tab := [(9, ⟨.str, 1, 16, [.str (.lit [])]⟩), (22, ⟨.slice 9, 1, 24, [.nilsl]⟩), (24, ⟨.struct [(0, 9), (1, 22)], 2, 40, [.str (.lit []), .nilsl]⟩)]
theorem T_jetsamlaw13_TagsGets_ok : TabOk Tryd.prog T_jetsamlaw13_TagsGets := tab_ok [9, 22, 24]
theorem v_jetsamlaw13_TagsGets {y0 : tags_Comments} {y1 : List UInt8} {y2 : List (List UInt8)} {r : Bool} (h : jetsamlaw13_TagsGets y0 y1 y2 = some r) : AVal Tryd.prog Gl 3 [e_tags_Comments y0, e_str y1, (e_sl 1 e_str) y2] (e_bool r) := by
  refine aval_of' T_jetsamlaw13_TagsGets Gl 116 Tryd.func3 T_jetsamlaw13_TagsGets_ok Tryd_mixed fun P hP _ => ?_
  unfold jetsamlaw13_TagsGets at h
  conv => cbv
  refine .own ?_
  conv => cbv
  refine .mk ?_
  conv => cbv
  refine den_call' hP h (fun _ h => v_jetsamlaw13_few h) fun r1 _ h => ?_
  conv => cbv
  refine .mk ?_
  conv => cbv
  refine den_br h (fun _ h => ?_) (fun _ h => ?_)
  · conv => cbv
    refine den_call' hP h (fun _ h => v_jetsamlaw13_awake h) fun r2 _ h => ?_
    conv => cbv
    cases h
    exact lp
  conv => cbv
  refine den_cut' (r := r) (jetsamlaw13_TagsGets_K1 y0 y1 y2) (fun j3 => ⟨[(1, .str (.v y1)), (2, .sl 1 e_str y2), (3, .ptr 3 0)], [(3, .var [.str (.v y0.Vendor), .sl 1 e_str y0.L])], []⟩) ?_ (fun j3 h => ?_)
  · conv => cbv
    refine den_loop' (jetsamlaw13_TagsGets_L2 y0 y1 y2) h (fun a24 => ⟨[(1, .str (.v y1)), (2, .sl 1 e_str y2), (3, .ptr 3 0), (7, .int .i64 (.v a24))], [(3, .var [.str (.v y0.Vendor), .sl 1 e_str y0.L])], []⟩) (fun _ _ a24 x1 h hb1 hx1 => ?_)
    unfold jetsamlaw13_TagsGets_L2 at h
    conv => cbv
    refine den_br h (fun _ h => ?_) (fun _ h => ?_)
    · conv => cbv
      refine den_elemS h fun b25 _ h => ?_
      conv => cbv
      refine den_br h (fun _ h => ?_) (fun _ h => ?_)
      · conv => cbv
        refine den_call' hP h (fun _ h => v_jetsamlaw13_awake h) fun r26 _ h => ?_
        conv => cbv
        replace h := den_out h hx1
        cases h
        exact lp
      conv => cbv
      exact den_back' h hb1
    conv => cbv
    replace h := den_out h hx1
    exact den_join' h
  unfold jetsamlaw13_TagsGets_K1 at h
  conv => cbv
  refine .mk ?_
  conv => cbv
  refine den_call' hP h (fun _ h => v_tags_Comments_Write h) fun r4 _ h => ?_
  conv => cbv
  refine den_br h (fun _ h => ?_) (fun _ h => ?_)
  · conv => cbv
    refine den_call' hP h (fun _ h => v_jetsamlaw13_awake h) fun r5 _ h => ?_
    conv => cbv
    cases h
    exact lp
  conv => cbv
  refine den_cut' (r := r) (jetsamlaw13_TagsGets_K2 y0 y1 y2) (fun j6 => ⟨[(1, .str (.v y1)), (2, .sl 1 e_str y2), (3, .ptr 3 0), (10, .osl 1010)], [(3, .var [.str (.v y0.Vendor), .sl 1 e_str y0.L]), (1010, .arr false 9 1 e_str j6)], []⟩) ?_ (fun j6 h => ?_)
  · conv => cbv
    refine den_loop (jetsamlaw13_TagsGets_L1 y0 y1 y2) h (fun a14 : Int × (List (List UInt8)) => ⟨[(1, .str (.v y1)), (2, .sl 1 e_str y2), (3, .ptr 3 0), (10, .osl 1010), (11, .int .i64 (.v a14.1))], [(3, .var [.str (.v y0.Vendor), .sl 1 e_str y0.L]), (1010, .arr false 9 1 e_str a14.2)], []⟩) ?_ (fun _ _ a14 x1 h hb1 hx1 => ?_)
    · intro j0 hj
      conv => cbv
      subst hj
      exact ⟨⟨.same _, .arr _ _ _ _ _ _ rfl, trivial⟩, .same _, .same _, .same _, .own _ _ _ _ _ _ rfl rfl, .int _ _ _ rfl, trivial⟩
    unfold jetsamlaw13_TagsGets_L1 at h
    conv => cbv
    refine den_br h (fun _ h => ?_) (fun _ h => ?_)
    · conv => cbv
      refine den_cut' (r := x1) (jetsamlaw13_TagsGets_K3 a14) (fun j15 => ⟨[(1, .str (.v y1)), (2, .sl 1 e_str y2), (3, .ptr 3 0), (10, .osl 1010), (11, .int .i64 (.v a14.1))], [(3, .var [.str (.v y0.Vendor), .sl 1 e_str y0.L]), (1010, .arr false 9 1 e_str j15)], []⟩) ?_ (fun j15 h => ?_)
      · conv => cbv
        refine .mk ?_
        conv => cbv
        refine den_elem h fun p16 _ h => ?_
        conv => cbv
        refine den_call' hP h (fun _ h => v_jetsamref13_Comment h) fun r17 _ h => ?_
        conv => cbv
        refine .mk ?_
        conv => cbv
        refine den_br h (fun _ h => ?_) (fun _ h => ?_)
        · conv => cbv
          refine den_elem h fun p18 _ h => ?_
          conv => cbv
          refine .mk ?_
          conv => cbv
          refine den_subs h fun t19 _ h => ?_
          conv => cbv
          refine den_call' hP h (fun _ h => v_jetsamlaw13_same h) fun r20 _ h => ?_
          conv => cbv
          refine den_br h (fun _ h => ?_) (fun _ h => ?_)
          · conv => cbv
            refine .mk ?_
            conv => cbv
            refine den_elem h fun p21 _ h => ?_
            conv => cbv
            refine .mk ?_
            conv => cbv
            refine den_subs h fun t22 _ h => ?_
            conv => cbv
            refine .data ?_
            conv => cbv
            refine den_app_own e_str (xs := [t22]) h rfl lp fun l23 _ h => ?_
            conv => cbv
            exact den_join' h
          conv => cbv
          exact den_join' h
        conv => cbv
        refine .mk ?_
        conv => cbv
        exact den_join' h
      unfold jetsamlaw13_TagsGets_K3 at h
      conv => cbv
      exact den_back' h hb1
    conv => cbv
    replace h := den_out h hx1
    exact den_join' h
  unfold jetsamlaw13_TagsGets_K2 at h
  conv => cbv
  refine den_call' hP h (fun _ h => v_tags_Comments_With h) fun r7 _ h => ?_
  conv => cbv
  refine den_app_nil 1014 e_str (xs := y0.L) h (News.map rfl) fun l8 _ h => ?_
  conv => cbv
  refine den_app_own e_str (xs := y2) h rfl (News.map rfl) fun l9 _ h => ?_
  conv => cbv
  refine den_call' hP h (fun _ h => v_tags_Comments_Get h) fun r10 _ h => ?_
  conv => cbv
  refine .mk ?_
  conv => cbv
  refine den_lend' hP h (fun _ h => v_jetsamlaw13_texts h) fun r11 _ h => ?_
  conv => cbv
  refine .mk ?_
  conv => cbv
  refine .mk ?_
  conv => cbv
  refine den_br h (fun _ h => ?_) (fun _ h => ?_)
  · conv => cbv
    refine den_lend' hP h (fun _ h => v_jetsamlaw13_texts h) fun r12 _ h => ?_
    conv => cbv
    refine den_br h (fun _ h => ?_) (fun _ h => ?_)
    · conv => cbv
      refine den_call' hP h (fun _ h => v_jetsamlaw13_awake h) fun r13 _ h => ?_
      conv => cbv
      cases h
      exact lp
    conv => cbv
    cases h
    exact lp
  conv => cbv
  cases h
  exact lp
def T_jetsamref13_Low : Tab := [(3, ⟨.int .i64, 1, 8, [.int .i64 (.lit 0)]⟩), (5, ⟨.int .u8, 1, 1, [.int .u8 (.lit 0)]⟩), (27, ⟨.slice 5, 1, 24, [.nilsl]⟩)]
theorem T_jetsamref13_Low_ok : TabOk Tryd.prog T_jetsamref13_Low := tab_ok [3, 5, 27]
theorem v_jetsamref13_Low {y0 : Int} {r : List Int} (h : jetsamref13_Low y0 = some r) : AVal Tryd.prog Gl 46 [e_i64 y0] ((e_sl 1 e_u8) r) := by
  refine aval_of' T_jetsamref13_Low Gl 19 Tryd.func46 T_jetsamref13_Low_ok Tryd_mixed fun P hP _ => ?_
  unfold jetsamref13_Low at h
  conv => cbv
  refine .mk ?_
  conv => cbv
  refine .mk ?_
  conv => cbv
  refine .data ?_
  conv => cbv
  cases h
  exact .sls lp
def T_jetsamref13_Comments : Tab := [(5, ⟨.int .u8, 1, 1, [.int .u8 (.lit 0)]⟩), (9, ⟨.str, 1, 16, [.str (.lit [])]⟩), (22, ⟨.slice 9, 1, 24, [.nilsl]⟩), (27, ⟨.slice 5, 1, 24, [.nilsl]⟩)]
theorem T_jetsamref13_Comments_ok : TabOk Tryd.prog T_jetsamref13_Comments := tab_ok [5, 9, 22, 27]
theorem v_jetsamref13_Comments {y0 : List UInt8} {y1 : List (List UInt8)} {r : (List Int) × Int} (h : jetsamref13_Comments y0 y1 = some r) : AVal Tryd.prog Gl 17 [e_str y0, (e_sl 1 e_str) y1] (.tup [(e_sl 1 e_u8) r.1, e_i64 r.2]) := by
  refine aval_of' T_jetsamref13_Comments Gl 51 Tryd.func17 T_jetsamref13_Comments_ok Tryd_mixed fun P hP _ => ?_
  unfold jetsamref13_Comments at h
  conv => cbv
  refine den_call' hP h (fun _ h => v_jetsamref13_Text h) fun r1 _ h => ?_
  conv => cbv
  refine den_br h (fun _ h => ?_) (fun _ h => ?_)
  · conv => cbv
    cases h
    exact .tup _ _ lp
  conv => cbv
  refine .mk ?_
  conv => cbv
  refine den_call' hP h (fun _ h => v_jetsamref13_Low h) fun r2 _ h => ?_
  conv => cbv
  refine den_app_nil 1006 e_u8 (xs := r2) h (News.map rfl) fun l3 _ h => ?_
  conv => cbv
  refine den_app_own e_u8 (xs := (bytesI y0)) h rfl (News.map (by first | rfl | (cases y0 <;> rfl))) fun l4 _ h => ?_
  conv => cbv
  refine .mk ?_
  conv => cbv
  refine den_call' hP h (fun _ h => v_jetsamref13_Low h) fun r5 _ h => ?_
  conv => cbv
  refine den_app_own e_u8 (xs := r5) h rfl (News.map rfl) fun l6 _ h => ?_
  conv => cbv
  refine den_cut' (r := r) jetsamref13_Comments_K1 (fun j7 => ⟨[(6, .osl 1006)], [(1006, .arr false 5 1 e_u8 j7)], []⟩) ?_ (fun j7 h => ?_)
  · conv => cbv
    refine den_loop' (jetsamref13_Comments_L1 y1) h (fun a8 => ⟨[(1, .sl 1 e_str y1), (6, .osl 1006), (7, .int .i64 (.v a8.1))], [(1006, .arr false 5 1 e_u8 a8.2)], []⟩) (fun _ _ a8 x1 h hb1 hx1 => ?_)
    unfold jetsamref13_Comments_L1 at h
    conv => cbv
    refine den_br h (fun _ h => ?_) (fun _ h => ?_)
    · conv => cbv
      refine .mk ?_
      conv => cbv
      refine den_elem h fun p9 _ h => ?_
      conv => cbv
      refine den_call' hP h (fun _ h => v_jetsamref13_Comment h) fun r10 _ h => ?_
      conv => cbv
      refine den_br h (fun _ h => ?_) (fun _ h => ?_)
      · conv => cbv
        replace h := den_out h hx1
        cases h
        exact .tup _ _ lp
      conv => cbv
      refine .mk ?_
      conv => cbv
      refine den_elem h fun p11 _ h => ?_
      conv => cbv
      refine den_call' hP h (fun _ h => v_jetsamref13_Low h) fun r12 _ h => ?_
      conv => cbv
      refine den_app_own e_u8 (xs := r12) h rfl (News.map rfl) fun l13 _ h => ?_
      conv => cbv
      refine .mk ?_
      conv => cbv
      refine den_elem h fun p14 _ h => ?_
      conv => cbv
      refine den_app_own e_u8 (xs := (bytesI p14)) h rfl (News.map (by first | rfl | (cases p14 <;> rfl))) fun l15 _ h => ?_
      conv => cbv
      exact den_back' h hb1
    conv => cbv
    replace h := den_out h hx1
    exact den_join' h
  unfold jetsamref13_Comments_K1 at h
  conv => cbv
  cases h
  exact .tup _ _ lp
def Tx_tags_reader_take : Tab := [(4, ⟨.bool, 1, 1, [.bool (.lit false)]⟩), (5, ⟨.int .u8, 1, 1, [.int .u8 (.lit 0)]⟩), (27, ⟨.slice 5, 1, 24, [.nilsl]⟩), (80, ⟨.struct [(0, 27), (1, 4), (2, 4)], 3, 32, [.nilsl, .bool (.lit false), .bool (.lit false)]⟩)]
theorem Tx_tags_reader_take_ok : TabOk Tryd.prog Tx_tags_reader_take := tab_ok [4, 5, 27, 80]
theorem x_tags_reader_take {y0 : Int} {y1 : tags_reader} {r : (List Int) × (List Int) × Bool} (h : tags_reader_take y0 y1 = some r) : ACalls Tryd.prog Gl 74 [.ptr 10000 0, e_i64 y0] [(10000, .var [.sl 1 e_u8 y1.m_b, .bool (.v y1.m_end), .bool (.v y1.m_bad)])] (fun x o' => x = .sl 1 e_u8 r.1 ∧ o' = [(10000, .var [.sl 1 e_u8 r.2.1, .bool (.v r.2.2), .bool (.v y1.m_bad)])]) := by
  refine acalls_of' Tx_tags_reader_take Gl 39 [10000] Tryd.func74 Tx_tags_reader_take_ok Tryd_mixed fun P hP _ => ?_
  unfold tags_reader_take at h
  conv => cbv
  refine .mk ?_
  conv => cbv
  refine den_br h (fun _ h => ?_) (fun _ h => ?_)
  · conv => cbv
    refine .mk ?_
    conv => cbv
    refine .mk [(10000, 10000, false)] [] rfl rfl ?_ ?_
    · conv => cbv
      cases h
      exact ⟨.var _ _ lp, trivial⟩
    conv => cbv
    cases h
    exact lp
  conv => cbv
  refine .mk ?_
  conv => cbv
  refine den_sub h fun l1 _ h => ?_
  conv => cbv
  refine .mk ?_
  conv => cbv
  refine den_sub h fun l2 _ h => ?_
  conv => cbv
  refine .mk [(10000, 10000, false)] [] rfl rfl ?_ ?_
  · conv => cbv
    cases h
    exact ⟨.var _ _ lp, trivial⟩
  conv => cbv
  cases h
  exact lp
def Tx_tags_reader_low : Tab := [(3, ⟨.int .i64, 1, 8, [.int .i64 (.lit 0)]⟩), (5, ⟨.int .u8, 1, 1, [.int .u8 (.lit 0)]⟩), (27, ⟨.slice 5, 1, 24, [.nilsl]⟩)]
theorem Tx_tags_reader_low_ok : TabOk Tryd.prog Tx_tags_reader_low := tab_ok [3, 5, 27]
theorem x_tags_reader_low {y0 : tags_reader} {r : Int × (List Int) × Bool} (h : tags_reader_low y0 = some r) : ACalls Tryd.prog Gl 47 [.ptr 10000 0] [(10000, .var [.sl 1 e_u8 y0.m_b, .bool (.v y0.m_end), .bool (.v y0.m_bad)])] (fun x o' => x = .int .i64 (.v r.1) ∧ o' = [(10000, .var [.sl 1 e_u8 r.2.1, .bool (.v r.2.2), .bool (.v y0.m_bad)])]) := by
  refine acalls_of' Tx_tags_reader_low Gl 23 [10000] Tryd.func47 Tx_tags_reader_low_ok Tryd_mixed fun P hP _ => ?_
  unfold tags_reader_low at h
  conv => cbv
  refine den_cut' (r := r) tags_reader_low_K1 (fun j1 => ⟨[(3, .int .i64 (.v j1.1))], [(10000, .var [.sl 1 e_u8 j1.2.1, .bool (.v j1.2.2.1), .bool (.v y0.m_bad)]), (10000, .var [.sl 1 e_u8 j1.2.2.2.1, .bool (.v j1.2.2.2.2), .bool (.v y0.m_bad)])], []⟩) ?_ (fun j1 h => ?_)
  · conv => cbv
    refine den_own' [(10000, 10000, false)] [] hP h (fun _ h => x_tags_reader_take h) fun r2 _ h => ?_
    conv => cbv
    refine den_loop' (tags_reader_low_L1 r2) h (fun a3 => ⟨[(3, .int .i64 (.v a3.1)), (7, .sl 1 e_u8 r2.1), (8, .int .i64 (.len r2.1)), (9, .int .i64 (.v a3.2))], [(10000, .var [.sl 1 e_u8 r2.2.1, .bool (.v r2.2.2), .bool (.v y0.m_bad)]), (10000, .var [.sl 1 e_u8 r2.2.1, .bool (.v r2.2.2), .bool (.v y0.m_bad)])], []⟩) (fun _ _ a3 x1 h hb1 hx1 => ?_)
    unfold tags_reader_low_L1 at h
    conv => cbv
    refine den_br h (fun _ h => ?_) (fun _ h => ?_)
    · conv => cbv
      refine den_elem h fun p4 _ h => ?_
      conv => cbv
      refine .mk ?_
      conv => cbv
      refine den_chk h fun h => ?_
      conv => cbv
      exact den_back' h hb1
    conv => cbv
    replace h := den_out h hx1
    exact den_join' h
  unfold tags_reader_low_K1 at h
  conv => cbv
  refine .mk [(10000, 10000, false)] [] rfl rfl ?_ ?_
  · conv => cbv
    cases h
    exact ⟨.var _ _ lp, trivial⟩
  conv => cbv
  cases h
  exact lp
def Tx_tags_reader_text : Tab := [(4, ⟨.bool, 1, 1, [.bool (.lit false)]⟩), (5, ⟨.int .u8, 1, 1, [.int .u8 (.lit 0)]⟩), (9, ⟨.str, 1, 16, [.str (.lit [])]⟩), (27, ⟨.slice 5, 1, 24, [.nilsl]⟩), (80, ⟨.struct [(0, 27), (1, 4), (2, 4)], 3, 32, [.nilsl, .bool (.lit false), .bool (.lit false)]⟩)]
theorem Tx_tags_reader_text_ok : TabOk Tryd.prog Tx_tags_reader_text := tab_ok [4, 5, 9, 27, 80]
theorem x_tags_reader_text {y0 : tags_reader} {r : (List UInt8) × (List Int) × Bool} (h : tags_reader_text y0 = some r) : ACalls Tryd.prog Gl 48 [.ptr 10000 0, .fn 47 [.ptr 10000 0] []] [(10000, .var [.sl 1 e_u8 y0.m_b, .bool (.v y0.m_end), .bool (.v y0.m_bad)])] (fun x o' => x = .str (.v r.1) ∧ o' = [(10000, .var [.sl 1 e_u8 r.2.1, .bool (.v r.2.2), .bool (.v y0.m_bad)])]) := by
  refine acalls_of' Tx_tags_reader_text Gl 16 [10000] Tryd.func48 Tx_tags_reader_text_ok Tryd_mixed fun P hP _ => ?_
  unfold tags_reader_text at h
  conv => cbv
  refine den_own' [(10000, 10000, false)] [] hP h (fun _ h => x_tags_reader_low h) fun r1 _ h => ?_
  conv => cbv
  refine den_br h (fun _ h => ?_) (fun _ h => ?_)
  · conv => cbv
    refine .mk [(10000, 10000, false)] [] rfl rfl ?_ ?_
    · conv => cbv
      cases h
      exact ⟨.var _ _ lp, trivial⟩
    conv => cbv
    cases h
    exact lp
  conv => cbv
  refine den_own' [(10000, 10000, false)] [] hP h (fun _ h => x_tags_reader_take h) fun r2 _ h => ?_
  conv => cbv
  refine den_str (fun t3 => (some (t3, r2.2.1, r2.2.2))) e_u8 r2.1 (News.map rfl) (fun _ => rfl) h fun t3 _ h => ?_
  conv => cbv
  refine .mk [(10000, 10000, false)] [] rfl rfl ?_ ?_
  · conv => cbv
    cases h
    exact ⟨.var _ _ lp, trivial⟩
  conv => cbv
  cases h
  exact lp
def Tx_tags_reader_over : Tab := [(4, ⟨.bool, 1, 1, [.bool (.lit false)]⟩), (27, ⟨.slice 5, 1, 24, [.nilsl]⟩), (80, ⟨.struct [(0, 27), (1, 4), (2, 4)], 3, 32, [.nilsl, .bool (.lit false), .bool (.lit false)]⟩)]
theorem Tx_tags_reader_over_ok : TabOk Tryd.prog Tx_tags_reader_over := tab_ok [4, 27, 80]
theorem x_tags_reader_over {y0 : tags_reader} {r : Int} (h : tags_reader_over y0 = some r) : ACalls Tryd.prog Gl 49 [.ptr 10000 0] [(10000, .var [.sl 1 e_u8 y0.m_b, .bool (.v y0.m_end), .bool (.v y0.m_bad)])] (fun x o' => x = .int .i64 (.v r) ∧ o' = [(10000, .var [.sl 1 e_u8 y0.m_b, .bool (.v y0.m_end), .bool (.v y0.m_bad)])]) := by
  refine acalls_of' Tx_tags_reader_over Gl 21 [10000] Tryd.func49 Tx_tags_reader_over_ok Tryd_mixed fun P hP _ => ?_
  unfold tags_reader_over at h
  conv => cbv
  refine den_br h (fun _ h => ?_) (fun _ h => ?_)
  · conv => cbv
    refine .mk [(10000, 10000, false)] [] rfl rfl ?_ ?_
    · conv => cbv
      cases h
      exact lp
    conv => cbv
    cases h
    exact lp
  conv => cbv
  refine .mk ?_
  conv => cbv
  refine .mk ?_
  conv => cbv
  refine den_br h (fun _ h => ?_) (fun _ h => ?_)
  · conv => cbv
    refine .mk [(10000, 10000, false)] [] rfl rfl ?_ ?_
    · conv => cbv
      cases h
      exact lp
    conv => cbv
    cases h
    exact lp
  conv => cbv
  refine .mk [(10000, 10000, false)] [] rfl rfl ?_ ?_
  · conv => cbv
    cases h
    exact lp
  conv => cbv
  cases h
  exact lp
def T_tags_ReadComments : Tab := [(4, ⟨.bool, 1, 1, [.bool (.lit false)]⟩), (9, ⟨.str, 1, 16, [.str (.lit [])]⟩), (22, ⟨.slice 9, 1, 24, [.nilsl]⟩), (24, ⟨.struct [(0, 9), (1, 22)], 2, 40, [.str (.lit []), .nilsl]⟩), (27, ⟨.slice 5, 1, 24, [.nilsl]⟩), (80, ⟨.struct [(0, 27), (1, 4), (2, 4)], 3, 32, [.nilsl, .bool (.lit false), .bool (.lit false)]⟩)]
theorem T_tags_ReadComments_ok : TabOk Tryd.prog T_tags_ReadComments := tab_ok [4, 9, 22, 24, 27, 80]
theorem v_tags_ReadComments {y0 : List Int} {r : tags_Comments × Int} (h : tags_ReadComments y0 = some r) : AVal Tryd.prog Gl 19 [(e_sl 1 e_u8) y0] (.tup [e_tags_Comments r.1, e_i64 r.2]) := by
  refine aval_of' T_tags_ReadComments Gl 56 Tryd.func19 T_tags_ReadComments_ok Tryd_mixed fun P hP _ => ?_
  unfold tags_ReadComments at h
  conv => cbv
  refine .own ?_
  conv => cbv
  refine .mk ?_
  conv => cbv
  refine den_own' [(14, 10000, false)] [] hP h (fun _ h => x_tags_reader_text h) fun r1 _ h => ?_
  conv => cbv
  refine den_own' [(14, 10000, false)] [] hP h (fun _ h => x_tags_reader_low h) fun r2 _ h => ?_
  conv => cbv
  refine den_cut' (r := r) (tags_ReadComments_K1 r1) (fun j3 => ⟨[(2, .ptr 2 0), (4, .ptr 14 0), (6, .ptr 6 0)], [(2, .var [.str (.lit []), .nilsl]), (6, .var [.str (.v r1.1), .osl 2073]), (14, .var [.sl 1 e_u8 j3.1, .bool (.v j3.2.1), .bool (.v false)]), (2073, .arr false 9 1 e_str j3.2.2)], []⟩) ?_ (fun j3 h => ?_)
  · conv => cbv
    refine den_loop (tags_ReadComments_L1 r1 r2) h (fun a6 : Int × (List Int) × Bool × (List (List UInt8)) => ⟨[(2, .ptr 2 0), (4, .ptr 14 0), (5, .fn 47 [.ptr 14 0] []), (6, .ptr 6 0), (23, .int .i64 (.v r2.1)), (24, .int .i64 (.v a6.1))], [(2, .var [.str (.lit []), .nilsl]), (6, .var [.str (.v r1.1), .osl 2073]), (14, .var [.sl 1 e_u8 a6.2.1, .bool (.v a6.2.2.1), .bool (.v false)]), (2073, .arr false 9 1 e_str a6.2.2.2)], []⟩) ?_ (fun _ _ a6 x1 h hb1 hx1 => ?_)
    · intro j0 hj
      conv => cbv
      subst hj
      exact ⟨⟨.same _, .var _ _ (.cons _ _ _ _ (.same _) (.cons _ _ _ _ (.own _ _ _ _ _ _ rfl rfl) .nil)), .var _ _ lp, .arr _ _ _ _ _ _ rfl, trivial⟩, .same _, .same _, .same _, .same _, .same _, .int _ _ _ rfl, trivial⟩
    unfold tags_ReadComments_L1 at h
    conv => cbv
    refine den_br h (fun _ h => ?_) (fun _ h => ?_)
    · conv => cbv
      refine den_own' [(14, 10000, false)] [] hP h (fun _ h => x_tags_reader_text h) fun r7 _ h => ?_
      conv => cbv
      refine den_br h (fun _ h => ?_) (fun _ h => ?_)
      · conv => cbv
        replace h := den_out h hx1
        exact den_join' h
      conv => cbv
      refine .mk ?_
      conv => cbv
      refine .data ?_
      conv => cbv
      refine den_app_own e_str (xs := [r7.1]) h rfl lp fun l8 _ h => ?_
      conv => cbv
      exact den_back' h hb1
    conv => cbv
    replace h := den_out h hx1
    exact den_join' h
  unfold tags_ReadComments_K1 at h
  conv => cbv
  refine den_own' [(14, 10000, false)] [] hP h (fun _ h => x_tags_reader_over h) fun r4 _ h => ?_
  conv => cbv
  refine den_br h (fun _ h => ?_) (fun _ h => ?_)
  · conv => cbv
    cases h
    exact .tup _ _ lp
  conv => cbv
  refine .mk ?_
  conv => cbv
  refine den_call' hP h (fun _ h => v_tags_Comments_Write h) fun r5 _ h => ?_
  conv => cbv
  refine den_br h (fun _ h => ?_) (fun _ h => ?_)
  · conv => cbv
    cases h
    exact .tup _ _ lp
  conv => cbv
  cases h
  exact .tup _ _ lp
def T_jetsamref13_low : Tab := [(3, ⟨.int .i64, 1, 8, [.int .i64 (.lit 0)]⟩), (5, ⟨.int .u8, 1, 1, [.int .u8 (.lit 0)]⟩), (27, ⟨.slice 5, 1, 24, [.nilsl]⟩)]
theorem T_jetsamref13_low_ok : TabOk Tryd.prog T_jetsamref13_low := tab_ok [3, 5, 27]
theorem v_jetsamref13_low {y0 : List Int} {y1 : Int} {r : Int} (h : jetsamref13_low y0 y1 = some r) : AVal Tryd.prog Gl 50 [(e_sl 1 e_u8) y0, e_i64 y1] (e_i64 r) := by
  refine aval_of' T_jetsamref13_low Gl 39 Tryd.func50 T_jetsamref13_low_ok Tryd_mixed fun P hP _ => ?_
  unfold jetsamref13_low at h
  conv => cbv
  refine den_br h (fun _ h => ?_) (fun _ h => ?_)
  · conv => cbv
    cases h
    exact lp
  conv => cbv
  refine .dup ?_
  conv => cbv
  refine .mk (some []) (by kernel_rfl) ?_
  conv => cbv
  refine den_elem h fun p1 _ h => ?_
  conv => cbv
  refine .mk ?_
  conv => cbv
  refine den_elem h fun p2 _ h => ?_
  conv => cbv
  refine .mk ?_
  conv => cbv
  refine den_elem h fun p3 _ h => ?_
  conv => cbv
  refine .mk ?_
  conv => cbv
  refine .mk ?_
  conv => cbv
  refine den_elem h fun p4 _ h => ?_
  conv => cbv
  refine .mk ?_
  conv => cbv
  cases h
  exact lp
def T_jetsamref13_ReadComments : Tab := [(5, ⟨.int .u8, 1, 1, [.int .u8 (.lit 0)]⟩), (9, ⟨.str, 1, 16, [.str (.lit [])]⟩), (22, ⟨.slice 9, 1, 24, [.nilsl]⟩), (27, ⟨.slice 5, 1, 24, [.nilsl]⟩)]
theorem T_jetsamref13_ReadComments_ok : TabOk Tryd.prog T_jetsamref13_ReadComments := tab_ok [5, 9, 22, 27]
theorem v_jetsamref13_ReadComments {y0 : List Int} {r : (List UInt8) × (List (List UInt8)) × Int} (h : jetsamref13_ReadComments y0 = some r) : AVal Tryd.prog Gl 20 [(e_sl 1 e_u8) y0] (.tup [e_str r.1, (e_sl 1 e_str) r.2.1, e_i64 r.2.2]) := by
  refine aval_of' T_jetsamref13_ReadComments Gl 89 Tryd.func20 T_jetsamref13_ReadComments_ok Tryd_mixed fun P hP _ => ?_
  unfold jetsamref13_ReadComments at h
  conv => cbv
  refine den_call' hP h (fun _ h => v_jetsamref13_low h) fun r1 _ h => ?_
  conv => cbv
  refine .mk ?_
  conv => cbv
  refine den_br h (fun _ h => ?_) (fun _ h => ?_)
  · conv => cbv
    cases h
    exact .tup _ _ lp
  conv => cbv
  refine .mk ?_
  conv => cbv
  refine den_sub h fun l2 _ h => ?_
  conv => cbv
  refine den_str (fun t3 => ((jetsamref13_low y0 (W (4 + r1))).bind fun r4 => if (decide (r4 < 0)) = true then   some ([], ([] : List (List UInt8)), (11 : Int)) else   iter (jetsamref13_ReadComments_L1 y0 t3 r4) ((W ((W (4 + r1)) + 4)), 0, []))) e_u8 l2 (News.map rfl) (fun _ => rfl) h fun t3 _ h => ?_
  conv => cbv
  refine den_call' hP h (fun _ h => v_jetsamref13_low h) fun r4 _ h => ?_
  conv => cbv
  refine den_br h (fun _ h => ?_) (fun _ h => ?_)
  · conv => cbv
    cases h
    exact .tup _ _ lp
  conv => cbv
  refine den_cut' (r := r) (jetsamref13_ReadComments_K1 y0 t3) (fun j5 => ⟨[(0, .sl 1 e_u8 y0), (6, .str (.v t3)), (7, .int .i64 (.v j5.1)), (9, .osl 1009)], [(1009, .arr false 9 1 e_str j5.2)], []⟩) ?_ (fun j5 h => ?_)
  · conv => cbv
    refine den_loop (jetsamref13_ReadComments_L1 y0 t3 r4) h (fun a7 : Int × Int × (List (List UInt8)) => ⟨[(0, .sl 1 e_u8 y0), (6, .str (.v t3)), (7, .int .i64 (.v a7.1)), (8, .int .i64 (.v r4)), (9, .osl 1009), (10, .int .i64 (.v a7.2.1))], [(1009, .arr false 9 1 e_str a7.2.2)], []⟩) ?_ (fun _ _ a7 x1 h hb1 hx1 => ?_)
    · intro j0 hj
      conv => cbv
      subst hj
      exact ⟨⟨.arr _ _ _ _ _ _ rfl, trivial⟩, .same _, .same _, .int _ _ _ rfl, .same _, .own _ _ _ _ _ _ rfl rfl, .int _ _ _ rfl, trivial⟩
    unfold jetsamref13_ReadComments_L1 at h
    conv => cbv
    refine den_br h (fun _ h => ?_) (fun _ h => ?_)
    · conv => cbv
      refine den_call' hP h (fun _ h => v_jetsamref13_low h) fun r8 _ h => ?_
      conv => cbv
      refine .mk ?_
      conv => cbv
      refine den_br h (fun _ h => ?_) (fun _ h => ?_)
      · conv => cbv
        replace h := den_out h hx1
        cases h
        exact .tup _ _ lp
      conv => cbv
      refine .mk ?_
      conv => cbv
      refine .mk ?_
      conv => cbv
      refine den_sub h fun l9 _ h => ?_
      conv => cbv
      refine den_str (fun t10 => ((app 16 a7.2.2 [t10]).bind fun l11 => some (Sum.inl ((W ((W (a7.1 + 4)) + r8)), (W (a7.2.1 + 1)), l11)))) e_u8 l9 (News.map rfl) (fun _ => rfl) h fun t10 _ h => ?_
      conv => cbv
      refine .data ?_
      conv => cbv
      refine den_app_own e_str (xs := [t10]) h rfl lp fun l11 _ h => ?_
      conv => cbv
      exact den_back' h hb1
    conv => cbv
    replace h := den_out h hx1
    exact den_join' h
  unfold jetsamref13_ReadComments_K1 at h
  conv => cbv
  refine den_br h (fun _ h => ?_) (fun _ h => ?_)
  · conv => cbv
    cases h
    exact .tup _ _ lp
  conv => cbv
  refine .mk ?_
  conv => cbv
  refine den_call' hP h (fun _ h => v_jetsamref13_Comments h) fun r6 _ h => ?_
  conv => cbv
  refine den_br h (fun _ h => ?_) (fun _ h => ?_)
  · conv => cbv
    cases h
    exact .tup _ _ lp
  conv => cbv
  cases h
  exact .tup _ _ lp
def T_jetsamlaw13_TagsComments : Tab := [(9, ⟨.str, 1, 16, [.str (.lit [])]⟩), (22, ⟨.slice 9, 1, 24, [.nilsl]⟩), (24, ⟨.struct [(0, 9), (1, 22)], 2, 40, [.str (.lit []), .nilsl]⟩), (27, ⟨.slice 5, 1, 24, [.nilsl]⟩)]
theorem T_jetsamlaw13_TagsComments_ok : TabOk Tryd.prog T_jetsamlaw13_TagsComments := tab_ok [9, 22, 24, 27]
theorem v_jetsamlaw13_TagsComments {y0 : tags_Comments} {y1 : List Int} {r : Bool} (h : jetsamlaw13_TagsComments y0 y1 = some r) : AVal Tryd.prog Gl 4 [e_tags_Comments y0, (e_sl 1 e_u8) y1] (e_bool r) := by
  refine aval_of' T_jetsamlaw13_TagsComments Gl 74 Tryd.func4 T_jetsamlaw13_TagsComments_ok Tryd_mixed fun P hP _ => ?_
  unfold jetsamlaw13_TagsComments at h
  conv => cbv
  refine .own ?_
  conv => cbv
  refine den_call' hP h (fun _ h => v_jetsamlaw13_few h) fun r1 _ h => ?_
  conv => cbv
  refine .mk ?_
  conv => cbv
  refine den_br h (fun _ h => ?_) (fun _ h => ?_)
  · conv => cbv
    refine den_call' hP h (fun _ h => v_jetsamlaw13_awake h) fun r2 _ h => ?_
    conv => cbv
    cases h
    exact lp
  conv => cbv
  refine .mk ?_
  conv => cbv
  refine den_call' hP h (fun _ h => v_tags_Comments_Write h) fun r3 _ h => ?_
  conv => cbv
  refine .mk ?_
  conv => cbv
  refine den_call' hP h (fun _ h => v_jetsamref13_Comments h) fun r4 _ h => ?_
  conv => cbv
  refine den_call' hP h (fun _ h => v_jetsamlaw11_Bytes h) fun r5 _ h => ?_
  conv => cbv
  refine .mk ?_
  conv => cbv
  refine den_br h (fun _ h => ?_) (fun _ h => ?_)
  · conv => cbv
    cases h
    exact lp
  conv => cbv
  refine den_call' hP h (fun _ h => v_tags_ReadComments h) fun r6 _ h => ?_
  conv => cbv
  refine .mk ?_
  conv => cbv
  refine den_call' hP h (fun _ h => v_jetsamref13_ReadComments h) fun r7 _ h => ?_
  conv => cbv
  refine .mk ?_
  conv => cbv
  refine .mk ?_
  conv => cbv
  refine .mk ?_
  conv => cbv
  refine den_br h (fun _ h => ?_) (fun _ h => ?_)
  · conv => cbv
    refine den_call' hP h (fun _ h => v_jetsamlaw13_texts h) fun r8 _ h => ?_
    conv => cbv
    refine .mk ?_
    conv => cbv
    refine den_br h (fun _ h => ?_) (fun _ h => ?_)
    · conv => cbv
      refine den_call' hP h (fun _ h => v_jetsamlaw13_awake h) fun r9 _ h => ?_
      conv => cbv
      cases h
      exact lp
    conv => cbv
    cases h
    exact lp
  conv => cbv
  refine .mk ?_
  conv => cbv
  cases h
  exact lp
end Go.Proofs.YtpdklmagncfhaaaDoor
